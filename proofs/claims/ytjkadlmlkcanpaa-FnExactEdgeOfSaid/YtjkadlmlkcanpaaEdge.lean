/- spec.wrongAt, spec.EdgeOf and impl.EdgeOf. -/
import Derived.Test.YtjkadlmlkcanpaaEdgeP
import Derived.Test.YtjkadlmlkcanpaaCases
import Derived.Test.YtjkadlmlkcanpaaSSort
import Derived.OwnWalk
namespace Go.Proofs.Ytjkadlmlkcanpaa
open Go.RowKit

/-- The sides before u at one edge. -/
def stU (W : Int → Int → Int) (s : Int × Int × Int) (e : Int) : Nat → Int × Int × Int
  | 0 => s
  | u + 1 => stE W (stU W s e u) e (u : Int)
theorem stU_two (W : Int → Int → Int) (s : Int × Int × Int) (e : Int) : stU W s e 2 = stE2 W s e := rfl
theorem stE_cases (W : Int → Int → Int) (a b f e u : Int) : stE W (a, b, f) e u = if W e u < f then (e, u, W e u) else (a, b, f) := rfl

set_option maxHeartbeats 1000000 in
theorem wrongAt_any (b o c b' o' c' : Nat) (xs ws : List Int) (e : Int) (u : Nat) (w : World) (h : RowI w b o xs) (h' : RowI w b' o' ws) (hv : Vc xs ws) (hu : u ≤ 1) :
    Calls Try.prog 65 #[.slice (some ⟨b, o, none⟩) xs.length c, .slice (some ⟨b', o', none⟩) ws.length c', .int .i64 e, .int .i64 u] w fun r w' => r = .returned (.int .i64 (edW xs ws e u)) ∧ w = w' := by
  have H := Lib.hid h
  have H' := Lib.hid h'
  have HV := Lib.hid hv
  have hlen := hv.len
  have n10 := hv.n10
  have HL := Lib.hid hlen
  have q0 : IntKind.i64.wrap (1 - (u : Int)) = 1 - (u : Int) := IntWalk.i64_in _ (by omega)
  clear h h' hv hlen
  go_enter Try.func65, Try.ntmps65
  go_wp2_with fail
  go_loop [9, 10] (fun v9 v10 => ∃ k : Nat, k ≤ xs.length ∧ v10 = .int .i64 k ∧ v9 = .int .i64 (wrI xs ws e u k : Nat)) (fun _ v10 => xs.length - (intOf v10).toNat)
  case atStart => exact ⟨0, Nat.zero_le _, rfl, rfl⟩
  case round =>
    obtain ⟨k, hk, rfl, rfl⟩ := hrel
    by_cases hlt : k < xs.length
    · have y1 := H.out.cell k hlt
      have y2 := H'.out.cell k (by rw [HL.out]; exact hlt)
      have hm := HV.out.m k (by rw [HL.out]; exact hlt)
      have hw := wrI_le xs ws e u k
      have s1 : wrI xs ws e u (k + 1) = wrI xs ws e u k + (wrB (gi xs k) (gi ws k) e u).toNat := rfl
      have q2 : (k : Int) < (ws.length : Int) := by rw [HL.out]; omega
      obtain ⟨x, hx⟩ : ∃ x, gi xs k = x := ⟨_, rfl⟩
      obtain ⟨y, hy⟩ : ∃ x, gi ws k = x := ⟨_, rfl⟩
      obtain ⟨n, hn⟩ : ∃ x, wrI xs ws e u k = x := ⟨_, rfl⟩
      rw [hx] at y1 s1
      rw [hy] at y2 hm s1
      rw [hn] at hw s1 ⊢
      have q1 : IntKind.i64.wrap ((n : Int) + 1) = ((n + 1 : Nat) : Int) := by rw [IntWalk.i64_in _ (by omega)]; omega
      unfold wrB at s1
      by_cases t : e ≤ x
      · have t1 : decide (e ≤ x) = true := by simpa using t
        by_cases r : y = (u : Int)
        · have r1 : (y == (u : Int)) = true := by simpa using r
          have r2 : ((u : Int) != y) = false := by simp [r]
          rw [t1, r1] at s1
          have S1 := Lib.hid s1
          clear hx hy hn s1 t r r1 hm
          go_wp2_with fail
          go_round
          case rel => exact ⟨k + 1, by omega, by go_num, by rw [S1.out]; rfl⟩
          case measure => simp [intOf]; omega
        · have r1 : (y == (u : Int)) = false := by simpa using r
          have r2 : ((u : Int) != y) = true := by rw [bne_iff_ne]; omega
          rw [t1, r1] at s1
          have S1 := Lib.hid s1
          clear hx hy hn s1 t r r1 hm
          go_wp2_with fail
          go_round
          case rel => exact ⟨k + 1, by omega, by go_num, by rw [S1.out]; rfl⟩
          case measure => simp [intOf]; omega
      · have t1 : decide (e ≤ x) = false := by simpa using t
        by_cases r : y = (u : Int)
        · have r1 : (y == (u : Int)) = true := by simpa using r
          have r2 : (1 - (u : Int) != y) = true := by rw [bne_iff_ne]; omega
          rw [t1, r1] at s1
          have S1 := Lib.hid s1
          clear hx hy hn s1 t r r1 hm
          go_wp2_with fail
          go_round
          case rel => exact ⟨k + 1, by omega, by go_num, by rw [S1.out]; rfl⟩
          case measure => simp [intOf]; omega
        · have r1 : (y == (u : Int)) = false := by simpa using r
          have r2 : (1 - (u : Int) != y) = false := by rw [bne_eq_false_iff_eq]; omega
          rw [t1, r1] at s1
          have S1 := Lib.hid s1
          clear hx hy hn s1 t r r1 hm
          go_wp2_with fail
          go_round
          case rel => exact ⟨k + 1, by omega, by go_num, by rw [S1.out]; rfl⟩
          case measure => simp [intOf]; omega
    · have e : k = xs.length := by omega
      subst e
      go_wp2_with fail
      go_ret
      exact ⟨rfl, rfl⟩

theorem edL_length (xs : List Int) : (edL xs).length = xs.length + 1 := by unfold edL; rw [List.length_append, srt_length, List.length_singleton]
theorem take_snoc {L : List Int} {k : Nat} (h : k < L.length) : L.take (k + 1) = L.take k ++ [gi L k] := by rw [List.take_succ_eq_append_getElem h, gi_eq h]

set_option maxHeartbeats 4000000 in
theorem sedgeOf_any (b o c b' o' c' : Nat) (xs ws : List Int) (w : World) (h : RowI w b o xs) (h' : RowI w b' o' ws) (hl : xs.length ≤ 1048576) (hl' : ws.length ≤ 1048576) :
    Calls Try.prog 33 #[.slice (some ⟨b, o, none⟩) xs.length c, .slice (some ⟨b', o', none⟩) ws.length c'] w fun e w' => e = .returned (.tuple #[.int .i64 (edV xs ws).1, .int .i64 (edV xs ws).2.1, .int .i64 (edV xs ws).2.2]) ∧ Below w.heap.size w w' := by
  have H := Lib.hid h
  have H' := Lib.hid h'
  clear h h'
  cases hv : vcB xs ws with
  | false =>
    have e : edV xs ws = (0, 0, -1) := by simp [edV, hv]
    rw [e]
    clear e
    go_enter Try.func33, Try.ntmps33
    go_wp2_with (go_at_call 52; refine (svalidCases_any b o c b' o' c' xs ws _ H.out H'.out hl hl').mono ?_; rintro e w1 ⟨rfl, rfl⟩; rw [hv])
    go_ret3
    exact ⟨rfl, by (repeat' (first | (with_reducible exact Below.refl _ _) | (with_reducible assumption) | (with_reducible refine Below.drewN ?_ _) | (with_reducible refine Below.alloc ?_ ?_ _) | (with_reducible refine Below.drew ?_) | (with_reducible refine Below.setCell ?_ ?_ _) | (with_reducible refine Below.trans ?_ (Below.mono (by assumption) ?_)) | go_size | (with_reducible refine Nat.le_trans ?_ (Below.size (by assumption)))))⟩
  | true =>
    have hvc := vc_of hv
    have n0 := hvc.n0
    have n10 := hvc.n10
    have e0 : edV xs ws = foE (edW xs ws) (0, 0, (xs.length : Int) + 1) (edL xs) := by simp [edV, hv]
    have hel := edL_length xs
    have hs0 : gi (edL xs) 0 = gi (srt xs) 0 := by
      unfold edL
      rw [gi_eq (by rw [List.length_append, srt_length]; omega), List.getElem_append_left (by rw [srt_length]; omega), ← gi_eq]
    have hfo : foE (edW xs ws) (gi (edL xs) 0, 0, edW xs ws (gi (edL xs) 0) 0) (edL xs) = foE (edW xs ws) (0, 0, (xs.length : Int) + 1) (edL xs) := by
      exact foE_first _ (by omega) (by have := wrI_le xs ws (gi (edL xs) 0) 0 xs.length; unfold edW; omega)
    have hin := ed_in hvc.x n0
    have hgl : gi (srt xs) (xs.length - 1) + 1 = gi (edL xs) xs.length := by
      unfold edL
      rw [gi_eq (k := xs.length) (by rw [List.length_append, srt_length, List.length_singleton]; omega), List.getElem_append_right (by rw [srt_length]; omega)]
      simp
    have hsn : srt xs ++ [gi (srt xs) (xs.length - 1) + 1] = edL xs := rfl
    rw [e0, ← hfo]
    obtain ⟨L, hL⟩ : ∃ L, edL xs = L := ⟨_, rfl⟩
    obtain ⟨s0, hs0e⟩ : ∃ s, gi (srt xs) 0 = s := ⟨_, rfl⟩
    obtain ⟨la, hla⟩ : ∃ s, gi (srt xs) (xs.length - 1) = s := ⟨_, rfl⟩
    rw [hL] at hel hs0 hin hgl hsn ⊢
    rw [hla] at hgl hsn
    have hlb := hin xs.length (by omega)
    rw [← hgl] at hlb
    rw [hs0]
    rw [hs0e] at hs0 ⊢
    obtain ⟨W, hW⟩ : ∃ W, edW xs ws = W := ⟨_, rfl⟩
    have HW := Lib.hid hW
    rw [hW]
    obtain ⟨S0, hS0⟩ : ∃ S0, (s0, (0 : Int), W s0 0) = S0 := ⟨_, rfl⟩
    have HS0' := Lib.hid hS0
    rw [hS0]
    clear hW hS0
    have HV := Lib.hid hv
    have HVC := Lib.hid hvc
    have HS := Lib.hid (ssorted_own b o c xs w H.out (by omega))
    have HSN := Lib.hid hsn
    have HEL := Lib.hid hel
    have HLA := Lib.hid hla
    have HS0 := Lib.hid hs0
    clear hv hvc e0 hfo hin hgl hsn hL hla hs0e
    have q1 : IntKind.i64.wrap ((xs.length : Int) - 1) = ((xs.length - 1 : Nat) : Int) := by rw [IntWalk.i64_in _ (by omega)]; omega
    have q2 : IntKind.i64.wrap (la + 1) = la + 1 := IntWalk.i64_in _ (by omega)
    have q3 : ((xs.length - 1 : Nat) : Int) < (xs.length : Int) := by omega
    go_enter Try.func33, Try.ntmps33
    go_wp2_with fail
    refine (svalidCases_any b o c b' o' c' xs ws _ H.out H'.out hl hl').mono ?_
    rintro e w1 ⟨rfl, rfl⟩
    rw [HV.out]
    go_wp2_with fail
    refine HS.out.mono ?_
    rintro e w2 ⟨g, cap, rfl, ho, hb2⟩
    have HO := Lib.hid ho
    have y1 := ho.row.cell (xs.length - 1) (by rw [srt_length]; omega)
    rw [Nat.zero_add, HLA.out] at y1
    have z2 := hb2.size
    have hgb := (Blk.of_own ho).2
    have HB2 := Lib.hid hb2
    clear ho hb2
    go_wp2_with (at_builtin; refine wpList_app1 rfl (.tmp 20) (.tmp 28) 22 rfl w.heap.size 3 (.int .i64 0) 1 8 Try.underlying22 infoI rfl (by decide) (by decide) _ _ _ rfl (World.ownsRow.alloc HO.out _) ⟨_, 0, none⟩ 1 [.int .i64 _] rfl rfl (cell_one_new _ _ _) (by simp [Value.oneCell']) (by omega) (by simp; omega) ?_; intro g6 cap6 w6 o1 o2 o3; have hoL := OwnI.app o1; rw [HSN.out] at hoL; have hrL := hoL.row; have B6 := Lib.hid ((HB2.out.alloc z2 _).trans (Below.app (World.ownsRow.alloc HO.out _) (by simp; omega) o2)); have yy := hrL.cell 0 (by omega); rw [Nat.zero_add, HS0.out] at yy)
    have HRL := Lib.hid hrL
    have R6 := Lib.hid (H.out.below B6.out)
    have R6' := Lib.hid (H'.out.below B6.out)
    clear o1 o2 o3 hoL hrL y1 HO
    refine (wrongAt_any b o c b' o' c' xs ws s0 0 w6 R6.out R6'.out HVC.out (by omega)).mono ?_
    rintro e w7 ⟨rfl, rfl⟩
    rw [HW.out]
    have CW := Lib.hid (fun (e : Int) (u : Nat) (hu : u ≤ 1) => wrongAt_any b o c b' o' c' xs ws e u w6 R6.out R6'.out HVC.out hu)
    rw [HW.out] at CW
    go_wp2_with fail
    go_loop [8, 9, 10, 11] (fun v8 v9 v10 v11 => ∃ (i : Nat) (A B F : Int), i ≤ L.length ∧ v11 = .int .i64 i ∧ foE W S0 (L.take i) = (A, B, F) ∧ v8 = .int .i64 A ∧ v9 = .int .i64 B ∧ v10 = .int .i64 F) (fun _ _ _ v11 => L.length - (intOf v11).toNat)
    case atStart => exact ⟨0, _, _, _, Nat.zero_le _, rfl, by rw [← HS0'.out]; rfl, rfl, rfl, rfl⟩
    case round =>
      obtain ⟨i, A, B, F, hi, rfl, hf, rfl, rfl, rfl⟩ := hrel
      have HF := Lib.hid hf
      clear hf
      by_cases hlt : i < L.length
      · have yi := HRL.out.cell i hlt
        rw [Nat.zero_add] at yi
        obtain ⟨x, hx⟩ : ∃ x, gi L i = x := ⟨_, rfl⟩
        rw [hx] at yi
        have HX := Lib.hid hx
        have hin : (i : Int) < (xs.length : Int) + 1 := by have := HEL.out; omega
        clear hx
        go_wp2_with fail
        go_loop [8, 9, 10, 12] (fun v8 v9 v10 v12 => ∃ (u : Nat) (A' B' F' : Int), u ≤ 2 ∧ v12 = .int .i64 u ∧ stU W (A, B, F) x u = (A', B', F') ∧ v8 = .int .i64 A' ∧ v9 = .int .i64 B' ∧ v10 = .int .i64 F') (fun _ _ _ v12 => 2 - (intOf v12).toNat)
        case atStart => exact ⟨0, _, _, _, by omega, rfl, rfl, rfl, rfl, rfl⟩
        case round =>
          obtain ⟨u, A', B', F', hu, rfl, hst, rfl, rfl, rfl⟩ := hrel
          have s1 : stU W (A, B, F) x (u + 1) = stE W (A', B', F') x u := by rw [← hst]; rfl
          rw [stE_cases] at s1
          by_cases hu2 : u < 2
          · obtain ⟨m, hm⟩ : ∃ m, W x u = m := ⟨_, rfl⟩
            have C := CW.out x u (by omega)
            rw [hm] at C s1
            have HST := Lib.hid hst
            clear hst hm
            by_cases t : m < F'
            · rw [if_pos t] at s1
              have S1 := Lib.hid s1
              have t1 : decide (m < F') = true := by simpa using t
              clear s1 t
              go_wp2_with (go_at_call 65; refine C.mono ?_; rintro e w9 ⟨rfl, rfl⟩)
              go_round
              case rel => exact ⟨u + 1, _, _, _, by omega, by go_num, S1.out, rfl, rfl, rfl⟩
              case measure => simp [intOf]; omega
            · rw [if_neg t] at s1
              have S1 := Lib.hid s1
              have t1 : decide (m < F') = false := by simpa using t
              clear s1 t
              go_wp2_with (go_at_call 65; refine C.mono ?_; rintro e w9 ⟨rfl, rfl⟩)
              go_round
              case rel => exact ⟨u + 1, _, _, _, by omega, by go_num, S1.out, rfl, rfl, rfl⟩
              case measure => simp [intOf]; omega
          · have hu3 : u = 2 := by omega
            subst hu3
            have s2 : foE W S0 (L.take (i + 1)) = (A', B', F') := by
              rw [take_snoc hlt, foE_snoc, HF.out, HX.out, ← stU_two]
              exact hst
            have S2 := Lib.hid s2
            clear s1 s2 hst
            go_wp2_with fail
            go_round
            case rel => exact ⟨i + 1, _, _, _, by omega, by go_num, S2.out, rfl, rfl, rfl⟩
            case measure => simp [intOf]; omega
      · have e : i = L.length := by omega
        have hin : ¬ (i : Int) < (xs.length : Int) + 1 := by have := HEL.out; omega
        subst e
        have hf := HF.out
        rw [List.take_length] at hf
        have HF2 := Lib.hid hf
        clear hf HF
        go_wp2_with fail
        go_ret3
        rw [HF2.out]
        exact ⟨rfl, B6.out⟩

set_option maxHeartbeats 4000000 in
theorem edgeOf_any (b o c b' o' c' : Nat) (xs ws : List Int) (w : World) (h : RowI w b o xs) (h' : RowI w b' o' ws) (hl : xs.length ≤ 1048576) (hl' : ws.length ≤ 1048576) :
    Calls Try.prog 34 #[.slice (some ⟨b, o, none⟩) xs.length c, .slice (some ⟨b', o', none⟩) ws.length c'] w fun e w' => e = .returned (.tuple #[.int .i64 (edV xs ws).1, .int .i64 (edV xs ws).2.1, .int .i64 (edV xs ws).2.2]) ∧ Below w.heap.size w w' := by
  have H := Lib.hid h
  have H' := Lib.hid h'
  clear h h'
  cases hv : vcB xs ws with
  | false =>
    have e : edV xs ws = (0, 0, -1) := by simp [edV, hv]
    rw [e]
    clear e
    go_enter Try.func34, Try.ntmps34
    go_wp2_with (go_at_call 55; refine (validCases_any b o c b' o' c' xs ws _ H.out H'.out hl hl').mono ?_; rintro e w1 ⟨rfl, hb1⟩; rw [hv])
    go_ret3
    exact ⟨rfl, by (repeat' (first | (with_reducible exact Below.refl _ _) | (with_reducible assumption) | (with_reducible refine Below.drewN ?_ _) | (with_reducible refine Below.alloc ?_ ?_ _) | (with_reducible refine Below.drew ?_) | (with_reducible refine Below.setCell ?_ ?_ _) | (with_reducible refine Below.trans ?_ (Below.mono (by assumption) ?_)) | go_size | (with_reducible refine Nat.le_trans ?_ (Below.size (by assumption)))))⟩
  | true =>
    have hvc := vc_of hv
    have n0 := hvc.n0
    have n10 := hvc.n10
    have e0 : edV xs ws = foE (edW xs ws) (0, 0, (xs.length : Int) + 1) (Lib.compact (srt xs) ++ [gi (srt xs) (xs.length - 1) + 1]) := by
      simp only [edV, hv, if_true, edL]
      rw [foE_snoc, foE_snoc, foE_compact]
    have hin := ed_in hvc.x n0
    have hgl : gi (srt xs) (xs.length - 1) + 1 = gi (edL xs) xs.length := by
      unfold edL
      rw [gi_eq (k := xs.length) (by rw [List.length_append, srt_length, List.length_singleton]; omega), List.getElem_append_right (by rw [srt_length]; omega)]
      simp
    have hlb := hin xs.length (by rw [edL_length]; omega)
    rw [← hgl] at hlb
    have hcl := compact_len (srt xs)
    rw [srt_length] at hcl
    rw [e0]
    have CV := Lib.hid (valuesOf_any b o c xs · · (by omega) n0)
    have CM := Lib.hid (max_any b o c xs · · n0 (by omega))
    obtain ⟨la, hla⟩ : ∃ s, gi (srt xs) (xs.length - 1) = s := ⟨_, rfl⟩
    obtain ⟨V, hV⟩ : ∃ s, Lib.compact (srt xs) = s := ⟨_, rfl⟩
    rw [hla] at hlb CM ⊢
    rw [hV] at hcl CV ⊢
    have HV := Lib.hid hv
    have HVC := Lib.hid hvc
    have hel : (V ++ [la + 1]).length = V.length + 1 := by simp
    obtain ⟨L, hL⟩ : ∃ L, V ++ [la + 1] = L := ⟨_, rfl⟩
    rw [hL] at hel ⊢
    have HL := Lib.hid hL
    have HEL := Lib.hid hel
    have WI := Lib.hid (show ∀ e u, edW xs ws e u = (wrI xs ws e u xs.length : Nat) from fun _ _ => rfl)
    obtain ⟨W, hW⟩ : ∃ W, edW xs ws = W := ⟨_, rfl⟩
    rw [hW] at WI ⊢
    obtain ⟨S0, hS0⟩ : ∃ S0, ((0 : Int), (0 : Int), (xs.length : Int) + 1) = S0 := ⟨_, rfl⟩
    have HS0' := Lib.hid hS0
    rw [hS0]
    clear hv hvc e0 hin hgl hla hV hL hW hS0
    have q1 : IntKind.i64.wrap ((xs.length : Int) + 1) = (xs.length : Int) + 1 := IntWalk.i64_in _ (by omega)
    have q2 : IntKind.i64.wrap (la + 1) = la + 1 := IntWalk.i64_in _ (by omega)
    go_enter Try.func34, Try.ntmps34
    go_wp2_with fail
    refine (validCases_any b o c b' o' c' xs ws _ H.out H'.out hl hl').mono ?_
    rintro e w1 ⟨rfl, b1⟩
    rw [HV.out]
    have R1 := Lib.hid (H.out.below b1)
    have z1 := b1.size
    go_wp2_with fail
    refine (CV.out w1 R1.out).mono ?_
    rintro e w2 ⟨g, cap, rfl, ho, b2⟩
    have HO := Lib.hid ho
    have z2 := b2.size
    have hgb := (Blk.of_own ho).2
    have B2 := Lib.hid (b1.trans (b2.mono z1))
    have R2 := Lib.hid (R1.out.below b2)
    have z3 := B2.out.size
    clear ho b1 b2
    go_wp2_with fail
    refine (CM.out w2 R2.out).mono ?_
    rintro e w3 ⟨rfl, rfl⟩
    go_wp2_with (at_builtin; refine wpList_app1 rfl (.tmp 24) (.tmp 28) 22 rfl w1.heap.size 3 (.int .i64 0) 1 8 Try.underlying22 infoI rfl (by decide) (by decide) _ _ _ rfl (World.ownsRow.alloc HO.out _) ⟨_, 0, none⟩ 1 [.int .i64 _] rfl rfl (cell_one_new _ _ _) (by simp [Value.oneCell']) (by omega) (by simp; omega) ?_; intro g6 cap6 w6 o1 o2 o3)
    have hoL := OwnI.app o1
    rw [HL.out] at hoL
    have HRL := Lib.hid hoL.row
    have B6 := Lib.hid ((B2.out.alloc z3 _).trans (Below.app (own_mono (World.ownsRow.alloc HO.out _) z1) (by simp; omega) o2))
    have R6 := Lib.hid (H.out.below B6.out)
    have R6' := Lib.hid (H'.out.below B6.out)
    have LE := Lib.hid HVC.out.len
    clear o1 o2 o3 hoL HO R1 R2
    go_loop [7, 8, 9, 31] (fun v7 v8 v9 v31 => ∃ (i : Nat) (A B F : Int), i ≤ L.length ∧ v31 = .int .i64 i ∧ foE W S0 (L.take i) = (A, B, F) ∧ v7 = .int .i64 A ∧ v8 = .int .i64 B ∧ v9 = .int .i64 F) (fun _ _ _ v31 => L.length - (intOf v31).toNat)
    case atStart => exact ⟨0, _, _, _, Nat.zero_le _, rfl, by rw [← HS0'.out]; rfl, rfl, rfl, rfl⟩
    case round =>
      obtain ⟨i, A, B, F, hi, rfl, hf, rfl, rfl, rfl⟩ := hrel
      have HF := Lib.hid hf
      clear hf
      by_cases hlt : i < L.length
      · have yi := HRL.out.cell i hlt
        rw [Nat.zero_add] at yi
        obtain ⟨x, hx⟩ : ∃ x, gi L i = x := ⟨_, rfl⟩
        rw [hx] at yi
        have HX := Lib.hid hx
        have hin : i < V.length + 1 := by have := HEL.out; omega
        clear hx
        go_wp2_with fail
        go_loop [7, 8, 9, 35] (fun v7 v8 v9 v35 => ∃ (u : Nat) (A' B' F' : Int), u ≤ 2 ∧ v35 = .int .i64 u ∧ stU W (A, B, F) x u = (A', B', F') ∧ v7 = .int .i64 A' ∧ v8 = .int .i64 B' ∧ v9 = .int .i64 F') (fun _ _ _ v35 => 2 - (intOf v35).toNat)
        case atStart => exact ⟨0, _, _, _, by omega, rfl, rfl, rfl, rfl, rfl⟩
        case round =>
          obtain ⟨u, A', B', F', hu, rfl, hst, rfl, rfl, rfl⟩ := hrel
          have s1 : stU W (A, B, F) x (u + 1) = stE W (A', B', F') x u := by rw [← hst]; rfl
          rw [stE_cases] at s1
          by_cases hu2 : u < 2
          · have HST := Lib.hid hst
            have S1 := Lib.hid s1
            clear hst s1
            go_wp2_with fail
            go_loop [13, 40] (fun v13 v40 => ∃ k : Nat, k ≤ xs.length ∧ v40 = .int .i64 k ∧ v13 = .int .i64 (wrI xs ws x u k : Nat)) (fun _ v40 => xs.length - (intOf v40).toNat)
            case atStart => exact ⟨0, Nat.zero_le _, rfl, rfl⟩
            case round =>
              obtain ⟨k, hk, rfl, rfl⟩ := hrel
              by_cases hkl : k < xs.length
              · have y1 := R6.out.cell k hkl
                have y2 := R6'.out.cell k (by rw [LE.out]; exact hkl)
                have hw := wrI_le xs ws x u k
                have s1 : wrI xs ws x u (k + 1) = wrI xs ws x u k + (wrB (gi xs k) (gi ws k) x u).toNat := rfl
                have q3 : (k : Int) < (ws.length : Int) := by rw [LE.out]; omega
                obtain ⟨z, hz⟩ : ∃ x, gi xs k = x := ⟨_, rfl⟩
                obtain ⟨y, hy⟩ : ∃ x, gi ws k = x := ⟨_, rfl⟩
                obtain ⟨n, hn⟩ : ∃ y, wrI xs ws x u k = y := ⟨_, rfl⟩
                rw [hz] at y1 s1
                rw [hy] at y2 s1
                rw [hn] at hw s1 ⊢
                have q4 : IntKind.i64.wrap ((n : Int) + 1) = ((n + 1 : Nat) : Int) := by rw [IntWalk.i64_in _ (by omega)]; omega
                unfold wrB at s1
                obtain ⟨t, ht⟩ : ∃ t, decide (x ≤ z) = t := ⟨_, rfl⟩
                obtain ⟨r, hr⟩ : ∃ r, (y == (u : Int)) = r := ⟨_, rfl⟩
                rw [ht, hr] at s1
                have SS := Lib.hid s1
                clear hz hy hn s1
                cases t <;> cases r
                all_goals
                  go_wp2_with fail
                  go_round
                  case rel => exact ⟨k + 1, by omega, by go_num, by rw [SS.out]; rfl⟩
                  case measure => simp [intOf]; omega
              · have e : k = xs.length := by omega
                subst e
                have wi := WI.out x u
                obtain ⟨m, hm⟩ : ∃ m, wrI xs ws x u xs.length = m := ⟨_, rfl⟩
                rw [hm] at wi ⊢
                have s1 := S1.out
                rw [wi] at s1
                clear hm wi
                by_cases t : (m : Int) < F'
                · rw [if_pos t] at s1
                  have S2 := Lib.hid s1
                  have t1 : decide ((m : Int) < F') = true := by simpa using t
                  clear s1 t
                  go_wp2_with fail
                  go_round
                  case rel => exact ⟨u + 1, _, _, _, by omega, by go_num, S2.out, rfl, rfl, rfl⟩
                  case measure => simp [intOf]; omega
                · rw [if_neg t] at s1
                  have S2 := Lib.hid s1
                  have t1 : decide ((m : Int) < F') = false := by simpa using t
                  clear s1 t
                  go_wp2_with fail
                  go_round
                  case rel => exact ⟨u + 1, _, _, _, by omega, by go_num, S2.out, rfl, rfl, rfl⟩
                  case measure => simp [intOf]; omega
          · have hu3 : u = 2 := by omega
            subst hu3
            have s2 : foE W S0 (L.take (i + 1)) = (A', B', F') := by
              rw [take_snoc hlt, foE_snoc, HF.out, HX.out, ← stU_two]
              exact hst
            have S2 := Lib.hid s2
            clear s1 s2 hst
            go_wp2_with fail
            go_round
            case rel => exact ⟨i + 1, _, _, _, by omega, by go_num, S2.out, rfl, rfl, rfl⟩
            case measure => simp [intOf]; omega
      · have e : i = L.length := by omega
        have hin : ¬ i < V.length + 1 := by have := HEL.out; omega
        subst e
        have hf := HF.out
        rw [List.take_length] at hf
        have HF2 := Lib.hid hf
        clear hf HF
        go_wp2_with fail
        go_ret3
        rw [HF2.out]
        exact ⟨rfl, B6.out⟩

end Go.Proofs.Ytjkadlmlkcanpaa
