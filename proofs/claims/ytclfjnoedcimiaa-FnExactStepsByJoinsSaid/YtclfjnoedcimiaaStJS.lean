/- Steps by joins: spec.StepsByJoins. -/
import Derived.Test.YtclfjnoedcimiaaStJP
import Derived.Test.YtclfjnoedcimiaaGapW
namespace Go.Proofs.Ytclfjnoedcimiaa
open Go.RowKit

def heads (H : Nat → Nat) (n k : Nat) : List Value := (List.range k).map fun j => .slice (some ⟨H j, 0, none⟩) n n
theorem heads_length (H : Nat → Nat) (n k : Nat) : (heads H n k).length = k := by simp [heads]
theorem get_heads {H : Nat → Nat} {n k j : Nat} (h : j < k) : (heads H n k)[j]? = some (.slice (some ⟨H j, 0, none⟩) n n) := by simp [heads, h]
theorem heads_succ {H H' : Nat → Nat} {n k r : Nat} (h : ∀ j, j < k → H' j = H j) (hr : H' k = r) : heads H n k ++ [.slice (some ⟨r, 0, none⟩) n n] = heads H' n (k + 1) := by
  unfold heads
  rw [List.range_succ, List.map_append, List.map_singleton, hr]
  congr 1
  refine List.map_congr_left fun j hj => ?_
  rw [List.mem_range] at hj
  rw [h j hj]
/-- The labels when the first c have been looked at. -/
def rl (G : List Int) (y x : Int) (c j : Nat) : Int := if j < c ∧ gi G j = y then x else gi G j
theorem rl_zero {G : List Int} {y x : Int} {n : Nat} (hl : G.length = n) : tabI (rl G y x 0) n = G := eq_of_gi (by rw [tabI_length, hl]) fun k hk => by
  rw [tabI_length] at hk
  rw [gi_tabI hk]
  unfold rl
  rw [if_neg (by omega)]
theorem rl_end {G : List Int} {y x : Int} {n : Nat} (hl : G.length = n) : tabI (rl G y x n) n = reL y x G := eq_of_gi (by rw [tabI_length, reL_length, hl]) fun k hk => by
  rw [tabI_length] at hk
  rw [gi_tabI hk, gi_reL (by omega)]
  unfold rl
  by_cases e : gi G k = y
  · rw [if_pos ⟨hk, e⟩, if_pos e]
  · rw [if_neg (fun h => e h.2), if_neg e]
theorem rl_self (G : List Int) (y x : Int) (c : Nat) : rl G y x c c = gi G c := by unfold rl; rw [if_neg (by omega)]
theorem rl_put {G : List Int} {y x : Int} {c : Nat} (h : gi G c = y) (j : Nat) : rl G y x (c + 1) j = if j = c then x else rl G y x c j := by
  unfold rl
  by_cases e : j = c
  · subst e; rw [if_pos ⟨by omega, h⟩, if_pos rfl]
  · rw [if_neg e]
    exact if_iff (by omega)
theorem rl_skip {G : List Int} {y x : Int} {c : Nat} (h : gi G c ≠ y) (j : Nat) : rl G y x c j = rl G y x (c + 1) j := by
  unfold rl
  refine if_iff ?_
  constructor
  · rintro ⟨h1, h2⟩; exact ⟨by omega, h2⟩
  · rintro ⟨h1, h2⟩
    by_cases e : j = c
    · subst e; exact absurd h2 h
    · exact ⟨by omega, h2⟩
theorem cell_one_at (w : World) (v : Value) (e : TypeId) (q : Nat) (hq : q = w.heap.size) : ∀ j u, [v][j]? = some u → (w.alloc (.cells #[v] e)).cell? ((⟨q, 0, none⟩ : Addr).add j) = some u := by
  subst hq
  exact cell_one_new _ _ _
/-- What the reference has made when k things are set up. -/
structure SI (w wr : World) (n k g4 c4 g5 c5 : Nat) (H : Nat → Nat) : Prop where
  own : wr.ownsRow w.heap.size 36 1 (.slice (some ⟨g4, 0, none⟩) k c4) k (heads H n k)
  lab : OwnI wr w.heap.size (.slice (some ⟨g5, 0, none⟩) k c5) k (ini k)
  ne : g4 ≠ g5
  row : ∀ j, j < k → w.heap.size ≤ H j ∧ H j ≠ g4 ∧ H j ≠ g5 ∧ Blk wr (H j) 3 (ic (tabI (fun _ => 0) n))
  dis : ∀ i j, i < j → j < k → H i ≠ H j
  bel : Below w.heap.size w wr
theorem SI.lt {w wr : World} {n k g4 c4 g5 c5 : Nat} {H : Nat → Nat} (h : SI w wr n k g4 c4 g5 c5 H) : w.heap.size ≤ g4 ∧ g4 < wr.heap.size ∧ w.heap.size ≤ g5 ∧ g5 < wr.heap.size :=
  ⟨(Blk.of_own h.own).2, (Blk.of_own h.own).1.lt, (Blk.of_own h.lab).2, (Blk.of_own h.lab).1.lt⟩
theorem zeros_made (n : Nat) (cur : Array Value) (h : cur = madeCells #[.int .i64 0] n) : cur.toList = ic (tabI (fun _ => 0) n) := by
  subst h
  rw [toList_madeCells_one]
  refine List.ext_getElem? fun j => ?_
  by_cases h : j < n
  · rw [get_ic (by rw [tabI_length]; exact h), gi_tabI h, List.getElem?_replicate, if_pos h]
  · rw [List.getElem?_eq_none (by rw [List.length_replicate]; omega), List.getElem?_eq_none (by rw [ic_length, tabI_length]; omega)]
theorem SI.labAt {w wr wb w6 : World} {n k g4 c4 g5 c5 : Nat} {H : Nat → Nat} (h : SI w wr n k g4 c4 g5 c5 H) (hb : Below wr.heap.size wr wb) (o2 : wb.grownBy w6 (some g4)) : OwnI w6 w.heap.size (.slice (some ⟨g5, 0, none⟩) k c5) k (ini k) :=
  OwnI.grown (own_below h.lab hb) o2 (by simp [Value.ownBlock]; exact fun e => h.ne e.symm)
theorem SI.next {w wr wb w6 wc w7 : World} {n k g4 c4 g5 c5 g6 c6 g7 c7 : Nat} {H : Nat → Nat} (h : SI w wr n k g4 c4 g5 c5 H) (hb : Below wr.heap.size wr wb) (hz : wr.heap.size < wb.heap.size) (hr : Blk wb wr.heap.size 3 (ic (tabI (fun _ => 0) n)))
    (o1 : w6.ownsRow w.heap.size 36 1 (.slice (some ⟨g6, 0, none⟩) (k + 1) c6) (k + 1) (heads H n k ++ [.slice (some ⟨wr.heap.size, 0, none⟩) n n])) (o2 : wb.grownBy w6 (some g4)) (o3 : some g4 = some g6 ∨ wb.heap.size ≤ g6)
    (hc : Below w6.heap.size w6 wc) (p1 : OwnI w7 w.heap.size (.slice (some ⟨g7, 0, none⟩) (k + 1) c7) (k + 1) (ini k ++ [(k : Int)])) (p2 : wc.grownBy w7 (some g5)) (p3 : some g5 = some g7 ∨ wc.heap.size ≤ g7) :
    ∃ H', SI w w7 n (k + 1) g6 c6 g7 c7 H' := by
  obtain ⟨l1, l2, l3, l4⟩ := h.lt
  have z6 := o2.size
  have zc := hc.size
  have l6 := (Blk.of_own o1).1.lt
  have e6 : g6 = g4 ∨ wb.heap.size ≤ g6 := o3.imp (fun e => (Option.some.inj e).symm) id
  have e7 : g7 = g5 ∨ wc.heap.size ≤ g7 := p3.imp (fun e => (Option.some.inj e).symm) id
  have hne := h.ne
  have keep : ∀ (b : Nat) (cs : List Value), Blk wb b 3 cs → b ≠ g4 → b ≠ g5 → Blk w7 b 3 cs := fun b cs hb h1 h2 => ((hb.grown o2 h1).below hc).grown p2 h2
  refine ⟨fun j => if j = k then wr.heap.size else H j, ?_, by rw [← ini_snoc]; exact p1, by omega, fun j hj => ?_, fun i j hij hj => ?_, ?_⟩
  · rw [← heads_succ (H := H) (r := wr.heap.size) (fun _ hj => by rw [if_neg (by omega)]) (by rw [if_pos rfl])]
    exact World.ownsRow.kept (own_below o1 hc) (row := some g5) p2 (.inr (by simp [Value.ownBlock]; omega))
  · by_cases e : j = k
    · subst e
      rw [if_pos rfl]
      exact ⟨h.bel.size, by omega, by omega, keep _ _ hr (by omega) (by omega)⟩
    · rw [if_neg e]
      obtain ⟨a1, a2, a3, a4⟩ := h.row j (by omega)
      have := a4.lt
      exact ⟨a1, by omega, by omega, keep _ _ (a4.below hb) a2 a3⟩
  · have hrow := fun a (ha : a < k) => (h.row a ha).2.2.2.lt
    by_cases e : j = k
    · subst e
      rw [if_pos rfl, if_neg (by omega)]
      have := hrow i (by omega)
      omega
    · rw [if_neg e, if_neg (by omega)]
      exact h.dis i j hij (by omega)
  · have b1 := h.bel.trans (hb.mono h.bel.size)
    have b2 := b1.grown o2 b1.size (fun k hk => by have := Option.some.inj hk; omega)
    have b3 := b2.trans (hc.mono b2.size)
    exact b3.grown p2 b3.size (fun k hk => by have := Option.some.inj hk; omega)
theorem SI.sq {w wr : World} {n g4 c4 g5 c5 : Nat} {H : Nat → Nat} (h : SI w wr n n g4 c4 g5 c5 H) : Sq wr w.heap.size wr.heap.size g4 H n (fun _ _ => 0) :=
  Sq.of (heads H n n) (heads_length _ _ _) (fun _ hj => get_heads hj) (Blk.of_own h.own).1 (fun j hj => (h.row j hj).2.2.2) ⟨h.lt.1, h.lt.2.1⟩ (fun j hj => ⟨(h.row j hj).1, (h.row j hj).2.2.2.lt, (h.row j hj).2.1⟩) h.dis

theorem stepsS_bad (g cg : Nat) (H Cp : Nat → Nat) (xss : List (List Int)) (w : World) (h : MatC w g H Cp xss) (hn : xss.length ≤ 1048576) (hv : gpB xss = false) :
    Calls Try.prog 29 #[.slice (some ⟨g, 0, none⟩) xss.length cg] w fun e w' => e = .returned (.slice none 0 0) ∧ Below w.heap.size w w' := by
  have CV := Lib.hid (hv ▸ svalidGaps_anyC g cg H Cp xss w h hn)
  clear h hv
  obtain ⟨n, hnn⟩ : ∃ n, xss.length = n := ⟨_, rfl⟩
  rw [hnn] at CV ⊢
  clear hnn hn
  go_enter Try.func29, Try.ntmps29
  go_wp2_with (go_at_call 37; refine CV.out.mono ?_; rintro e w1 ⟨rfl, b1⟩)
  go_ret
  exact ⟨rfl, b1⟩

set_option maxHeartbeats 8000000 in
set_option maxRecDepth 100000 in
theorem stepsS_good (g cg : Nat) (H Cp : Nat → Nat) (xss : List (List Int)) (n : Nat) (w : World) (h : MatC w g H Cp xss) (hn : xss.length = n) (hv : gpB xss = true) :
    Calls Try.prog 29 #[.slice (some ⟨g, 0, none⟩) n cg] w fun e w' => ∃ g' c' H', e = .returned (.slice (some ⟨g', 0, none⟩) n c') ∧ Sq w' w.heap.size w'.heap.size g' H' n (sK xss n (n - 1)) ∧ Below w.heap.size w w' := by
  have hg := gp_of hv
  have n0 := hg.n0
  have n6 := hg.n6
  rw [hn] at n0 n6
  have VG := Lib.hid (fun w (h : MatC w g H Cp xss) => hn ▸ hv ▸ svalidGaps_anyC g cg H Cp xss w h (by omega))
  have NJ := Lib.hid (fun w (h : MatC w g H Cp xss) => sjoins_any g n cg H Cp xss w h hg hn)
  have NA := Lib.hid (fun k (hk : k < n - 1) => (gj_at (F := fNear xss) (n := n) hk))
  have JN := Lib.hid (fun k (hk : k + 1 < n) => nj_all hg hn hk)
  have XYN := Lib.hid (fun k (hk : k + 1 < n) => show gi (gI n (oF (fNear xss) n k)) (nj xss n k).1 ≠ gi (gI n (oF (fNear xss) n k)) (nj xss n k).2.1 from fun e => by
    have j := nj_all hg hn hk
    have h1 := j.lt
    have h2 := j.ltn
    exact j.ne ((ns_same (ns_all hg hn k (by omega)) (by omega) h2).1 e))
  have LO := Lib.hid (oF_length (fNear xss) n (n - 1))
  have HM := Lib.hid h
  obtain ⟨i0, hi, hz0, hz1, hz2⟩ := info_parts infoI
  have hmk1 := run_make_row' (P := Try.prog) 36 3 (.int .i64 0) 8 Try.underlying36 infoI rfl .i64 .i64 n (by omega) (by omega)
  obtain ⟨p, hp⟩ : ∃ p, n - 1 = p := ⟨_, rfl⟩
  rw [hp] at NJ NA LO ⊢
  have hpn : p + 1 = n := by omega
  have HPN := Lib.hid hpn
  clear h hv hn hp hpn
  go_enter Try.func29, Try.ntmps29
  go_upto_region 3 with (go_at_call 37; refine (VG.out _ HM.out).mono ?_; rintro e w1 ⟨rfl, b1⟩)
  have HM1 := Lib.hid (HM.out.below b1)
  have z1 := b1.size
  have B1 := Lib.hid b1
  clear b1
  have S0 := Lib.hid (show SI w1 ((w1.alloc (.cells #[] 36)).alloc (.cells #[] 3)) n 0 w1.heap.size 0 (w1.heap.size + 1) 0 (fun _ => 0) from
    ⟨own_below (World.ownsRow_made w1 #[] 0 (Nat.le_refl _) (by unfold maxLen; omega) rfl) below_alloc, by have := World.ownsRow_made (size := 1) (e := 3) (base := w1.heap.size) (w1.alloc (.cells #[] 36)) #[] 0 (by simp) (by unfold maxLen; omega) rfl; rw [World.size_alloc] at this; exact this, by omega, fun j hj => absurd hj (by omega), fun i j _ hj => absurd hj (by omega), by (repeat' (first | (with_reducible exact Below.refl _ _) | (with_reducible assumption) | (with_reducible refine Below.drewN ?_ _) | (with_reducible refine Below.alloc ?_ ?_ _) | (with_reducible refine Below.drew ?_) | (with_reducible refine Below.setCell ?_ ?_ _) | (with_reducible refine Below.trans ?_ (Below.mono (by assumption) ?_)) | go_size | (with_reducible refine Nat.le_trans ?_ (Below.size (by assumption)))))⟩)
  go_wp2_with fail
  go_loopw [4, 5, 6] (fun v4 v5 v6 wr => ∃ (k g4 c4 g5 c5 : Nat) (H : Nat → Nat), k ≤ n ∧ v6 = .int .i64 k ∧ v4 = .slice (some ⟨g4, 0, none⟩) k c4 ∧ v5 = .slice (some ⟨g5, 0, none⟩) k c5 ∧ SI w1 wr n k g4 c4 g5 c5 H) (fun _ _ v6 _ => n - (intOf v6).toNat)
  case atStart => exact ⟨0, _, _, _, _, _, Nat.zero_le _, rfl, rfl, by go_num, S0.out⟩
  case round =>
    clear S0
    obtain ⟨k, g4, c4, g5, c5, HS, hk, rfl, rfl, rfl, si⟩ := hrel
    have SH := Lib.hid si
    obtain ⟨l1, l2, l3, l4⟩ := si.lt
    clear si
    by_cases hlt : k < n
    · go_wp2_with (first
        | (at_builtin; refine wpList_app1 rfl (.tmp 26) (.tmp 29) 23 rfl w1.heap.size 36 (.slice none 0 0) 1 24 Try.underlying23 infoSS rfl (by decide) (by decide) _ _ _ rfl (own_below (own_below SH.out.own below_alloc) below_alloc) ⟨_, 0, none⟩ 1 [.slice (some ⟨wr.heap.size, 0, none⟩) n n] rfl rfl (cell_one_at _ _ _ _ (by simp)) (by simp [Value.oneCell']) (by omega) (by simp only [World.size_alloc]; have := SH.out.bel.size; omega) ?_; intro g6 cap6 w6 p1 p2 p3; have bA : Below wr.heap.size wr ((wr.alloc (.cells (madeCells #[.int .i64 0] n) 3)).alloc (.cells #[.slice (some ⟨wr.heap.size, 0, none⟩) n n] 36)) := below_alloc.trans (below_alloc.mono (by rw [World.size_alloc]; omega)); have LB := Lib.hid (SH.out.labAt bA p2); have z6 := Nat.le_trans bA.size p2.size)
        | (at_builtin; refine wpList_app1 rfl (.tmp 31) (.tmp 33) 36 rfl w1.heap.size 3 (.int .i64 0) 1 8 Try.underlying36 infoI rfl (by decide) (by decide) _ _ _ rfl (World.ownsRow.alloc LB.out _) ⟨w6.heap.size, 0, none⟩ 1 [.int .i64 k] rfl rfl (cell_one_new _ _ _) (by simp [Value.oneCell']) (by omega) (by rw [World.size_alloc]; have := SH.out.bel.size; omega) ?_; intro g7 cap7 w7 q1 q2 q3))
      obtain ⟨H', SN⟩ := SH.out.next bA (by rw [World.size_alloc, World.size_alloc]; omega) ((Blk.made' _ rfl (zeros_made n _ rfl)).allocs _) p1 p2 p3 below_alloc (OwnI.app q1) q2 q3
      have SN' := Lib.hid SN
      go_roundw
      case rel => exact ⟨k + 1, _, _, _, _, H', by omega, by go_num, rfl, rfl, SN'.out⟩
      case measure => simp [intOf]; omega
    · obtain rfl : k = n := by omega
      have KD := Lib.hid SH.out.sq
      have KI := Lib.hid (show Blk wr g5 3 (ic (gI k (oF (fNear xss) k 0))) from (Blk.of_own SH.out.lab).1)
      have SEP := Lib.hid (show ∀ j, j < k → HS j ≠ g5 from fun j hj => (SH.out.row j hj).2.2.1)
      have SEP4 := SH.out.ne
      have B3 := Lib.hid (B1.out.trans (SH.out.bel.mono z1))
      have HMr := Lib.hid (HM.out.below B3.out)
      have z3' := B3.out.size
      go_wp2_with (go_at_call 43; fail)
      refine (NJ.out _ HMr.out).mono ?_
      rintro e w4 ⟨v4, rfl, m4, b4⟩
      have M4 := Lib.hid m4
      have z4 := b4.size
      have KD4 := Lib.hid (KD.out.below b4)
      have KI4 := Lib.hid (KI.out.below b4)
      have B4 := Lib.hid (B3.out.trans (b4.mono z3'))
      obtain ⟨g0, hg0⟩ : ∃ g, wr.heap.size = g := ⟨_, rfl⟩
      rw [hg0] at M4 z4 l2 l4 KD4
      obtain ⟨lo, hlo⟩ : ∃ g, w1.heap.size = g := ⟨_, rfl⟩
      rw [hlo] at KD4 l1 l3 z1
      clear m4 b4 KD KI B3 HMr hg0 SH hlo B1 HM1
      by_cases hp0 : p = 0
      · have e1 : ∃ A c3, v4 = .slice A 0 c3 := by
          rw [hp0] at M4
          rcases M4.out with ⟨h, _, _⟩ | ⟨g, c, h, _, _⟩
          · exact ⟨_, _, h⟩
          · exact ⟨_, _, h⟩
        obtain ⟨A, c3, rfl⟩ := e1
        have KE := Lib.hid (show Sq w4 w.heap.size w4.heap.size g4 HS k (sK xss k p) from by rw [hp0]; exact KD4.out.mono z1 (by omega))
        clear M4 KI4 KD4 hp0
        obtain ⟨wo, hwo⟩ : ∃ wo : World, w4 = wo := ⟨_, rfl⟩
        rw [hwo] at KE B4 ⊢
        clear hwo
        go_wp2_with fail
        go_loopw [8] (fun v8 wr => v8 = .int .i64 0 ∧ wr = wo) (fun _ _ => 0)
        case atStart => exact ⟨rfl, rfl⟩
        case round =>
          obtain ⟨rfl, rfl⟩ := hrel
          go_wp2_with fail
          go_ret
          exact ⟨_, _, _, rfl, KE.out, B4.out⟩
      · obtain ⟨g3, c3, rfl, hg3, k3⟩ : ∃ g c, v4 = .slice (some ⟨g, 0, none⟩) p c ∧ g0 ≤ g ∧ Blk w4 g 35 (jc (oF (fNear xss) k p)) := by
          rcases M4.out with ⟨_, h0, _⟩ | ⟨g, c, h1, h2, h3⟩
          · exact absurd h0 hp0
          · exact ⟨g, c, h1, h2, h3⟩
        have K3 := Lib.hid k3
        have l3' := k3.lt
        obtain ⟨Ns, hNs⟩ : ∃ L, oF (fNear xss) k p = L := ⟨_, rfl⟩
        rw [hNs] at K3 NA LO
        clear M4 k3 hNs hp0
        go_wp2_with fail
        go_loopw [8] (fun v8 wr => ∃ d : Nat, d ≤ p ∧ v8 = .int .i64 d ∧ Sq wr lo g0 g4 HS k (sK xss k d) ∧ Blk wr g5 3 (ic (gI k (oF (fNear xss) k d))) ∧ Blk wr g3 35 (jc Ns) ∧ Below w.heap.size w wr) (fun v8 _ => p - (intOf v8).toNat)
        case atStart => exact ⟨0, Nat.zero_le _, rfl, KD4.out, KI4.out, K3.out, B4.out⟩
        case round =>
          clear KD4 KI4 K3 B4 z4 l3'
          obtain ⟨d, hd, rfl, kD, kG, k3, b⟩ := hrel
          have KD := Lib.hid kD
          have KG := Lib.hid kG
          have K3 := Lib.hid k3
          have B := Lib.hid b
          have zl := b.size
          have ll := k3.lt
          clear kD kG k3 b
          by_cases hlk : d < p
          · have f1 := NA.out d hlk
            have j := JN.out d (by have := HPN.out; omega)
            obtain ⟨x1, x2, x3⟩ := K3.out.jn (k := d) (by rw [LO.out]; exact hlk)
            have l1' : (gj Ns d).1 < k := by rw [f1]; have := j.lt; have := j.ltn; unfold nj at *; omega
            have l2' : (gj Ns d).2.1 < k := by rw [f1]; exact j.ltn
            have SN := Lib.hid (show sK xss k (d + 1) = mJ (sK xss k d) (gI k (oF (fNear xss) k d)) (gi (gI k (oF (fNear xss) k d)) (gj Ns d).1) (gi (gI k (oF (fNear xss) k d)) (gj Ns d).2.1) (gj Ns d).2.2 by rw [f1]; rfl)
            have GN := Lib.hid (show gI k (oF (fNear xss) k (d + 1)) = reL (gi (gI k (oF (fNear xss) k d)) (gj Ns d).2.1) (gi (gI k (oF (fNear xss) k d)) (gj Ns d).1) (gI k (oF (fNear xss) k d)) by rw [f1]; exact gI_snoc _ _ _)
            have GL := Lib.hid (gI_length k (oF (fNear xss) k d))
            have xy := Lib.hid (show gi (gI k (oF (fNear xss) k d)) (gj Ns d).1 ≠ gi (gI k (oF (fNear xss) k d)) (gj Ns d).2.1 by rw [f1]; exact XYN.out d (by have := HPN.out; omega))
            clear f1 j
            obtain ⟨qa, hqa⟩ : ∃ q, (gj Ns d).1 = q := ⟨_, rfl⟩
            obtain ⟨qb, hqb⟩ : ∃ q, (gj Ns d).2.1 = q := ⟨_, rfl⟩
            obtain ⟨q, hq⟩ : ∃ q, (gj Ns d).2.2 = q := ⟨_, rfl⟩
            have HQ := Lib.hid hq
            rw [hqa] at x1 l1' SN GN xy
            rw [hqb] at x2 l2' SN GN xy
            rw [hq] at x3 SN
            obtain ⟨G, hG⟩ : ∃ G, gI k (oF (fNear xss) k d) = G := ⟨_, rfl⟩
            rw [hG] at SN GN GL KG xy
            obtain ⟨M, hM⟩ : ∃ M, sK xss k d = M := ⟨_, rfl⟩
            rw [hM] at SN KD
            have c3 := KG.out.cell (get_ic (xs := G) (k := qa) (by have := GL.out; omega))
            have c4 := KG.out.cell (get_ic (xs := G) (k := qb) (by have := GL.out; omega))
            obtain ⟨x, hx⟩ : ∃ x, gi G qa = x := ⟨_, rfl⟩
            obtain ⟨y, hy⟩ : ∃ x, gi G qb = x := ⟨_, rfl⟩
            rw [hx, hy] at SN xy GN
            rw [hx] at c3
            rw [hy] at c4
            have l1'' : (qa : Int) < (k : Int) := by omega
            have l2'' : (qb : Int) < (k : Int) := by omega
            clear hqa hqb hq hG hM hx hy
            go_wp2_with fail
            go_loopw [11] (fun v11 wr => ∃ a : Nat, a ≤ k ∧ v11 = .int .i64 a ∧ Sq wr lo g0 g4 HS k (mS M G x y q a 0) ∧ Blk wr g5 3 (ic G) ∧ Blk wr g3 35 (jc Ns) ∧ Below w.heap.size w wr) (fun v11 _ => k - (intOf v11).toNat)
            case atStart => exact ⟨0, Nat.zero_le _, rfl, by rw [mS_zero]; exact KD.out, KG.out, K3.out, B.out⟩
            case round =>
              clear KD KG K3 B x1 x2 x3 c3 c4 zl ll
              obtain ⟨a, ha, rfl, kD, kG, k3, b⟩ := hrel
              have KD := Lib.hid kD
              have KG := Lib.hid kG
              have K3 := Lib.hid k3
              have B := Lib.hid b
              have zl := b.size
              clear kD kG k3 b
              by_cases hla : a < k
              · go_wp2_with fail
                go_loopw [12] (fun v12 wr => ∃ c : Nat, c ≤ k ∧ v12 = .int .i64 c ∧ Sq wr lo g0 g4 HS k (mS M G x y q a c) ∧ Blk wr g5 3 (ic G) ∧ Blk wr g3 35 (jc Ns) ∧ Below w.heap.size w wr) (fun v12 _ => k - (intOf v12).toNat)
                case atStart => exact ⟨0, Nat.zero_le _, rfl, KD.out, KG.out, K3.out, B.out⟩
                case round =>
                  clear KD KG K3 B zl
                  obtain ⟨c, hc, rfl, kD, kG, k3, b⟩ := hrel
                  have KD := Lib.hid kD
                  have KG := Lib.hid kG
                  have K3 := Lib.hid k3
                  have B := Lib.hid b
                  have zl := b.size
                  clear kD kG k3 b
                  by_cases hlc : c < k
                  · have c1 := KG.out.cell (get_ic (xs := G) (k := a) (by have := GL.out; omega))
                    have c2 := KG.out.cell (get_ic (xs := G) (k := c) (by have := GL.out; omega))
                    have x3 := (K3.out.jn (k := d) (by rw [LO.out]; exact hlk)).2.2
                    rw [HQ.out] at x3
                    have h1 := KD.out.head hla
                    have m1 := KD.out.cell hla hlc
                    have f1 := (KD.out.rowB hla).frozen c
                    have ra := KD.out.rowIn hla
                    have n5 : HS a ≠ g5 := SEP.out a hla
                    have n7 : HS a ≠ g3 := by omega
                    have n9 : w.heap.size ≤ HS a := by omega
                    have hap := KD.out.apart hla hlc
                    obtain ⟨u, hu⟩ : ∃ u, gi G a = u := ⟨_, rfl⟩
                    obtain ⟨v, hv⟩ : ∃ u, gi G c = u := ⟨_, rfl⟩
                    rw [hu] at c1
                    rw [hv] at c2
                    have HU := Lib.hid hu
                    have HV := Lib.hid hv
                    clear hu hv ra hap
                    by_cases e1 : u = x
                    · have t1 : (u == x) = true := by simp [e1]
                      have t3 : (u == y) = false := by rw [beq_eq_false_iff_ne, e1]; exact xy.out
                      by_cases e2 : v = y
                      · have t2 : (v == y) = true := by simp [e2]
                        have E := Lib.hid (show G2 G x y a c ∨ G2 G x y c a from .inl ⟨HU.out.trans e1, HV.out.trans e2⟩)
                        clear e1 e2
                        go_wp2_with fail
                        (refine region_tail 11 (by kernel_rfl) (by kernel_rfl) ?_; simp only [List.take_succ_cons, List.take_zero, List.drop_succ_cons, List.drop_zero]; (repeat (go_big_quiet_step (fail))); refine wpQuiet_nil ?_)
                        go_wp2_with fail
                        go_roundw
                        case rel => exact ⟨c + 1, by omega, by go_num, ((KD.out.below below_drew).set hla hlc q).congr fun u v _ _ => mS_put E.out u v, (KG.out.below below_drew).other _ n5, (K3.out.below below_drew).other _ n7, B.out.drew.setCell n9 _⟩
                        case measure => simp [intOf]; omega
                      · have t2 : (v == y) = false := beq_eq_false_iff_ne.2 e2
                        have E := Lib.hid (show ¬ (G2 G x y a c ∨ G2 G x y c a) from fun h => h.elim (fun h => e2 (HV.out.symm.trans h.2)) (fun h => xy.out ((e1.symm.trans HU.out.symm).trans h.2)))
                        clear e1 e2
                        go_wp2_with fail
                        go_roundw
                        case rel => exact ⟨c + 1, by omega, by go_num, KD.out.congr fun u v _ _ => mS_skip E.out u v, KG.out, K3.out, B.out⟩
                        case measure => simp [intOf]; omega
                    · have t1 : (u == x) = false := beq_eq_false_iff_ne.2 e1
                      by_cases e3 : u = y
                      · have t3 : (u == y) = true := by simp [e3]
                        by_cases e4 : v = x
                        · have t4 : (v == x) = true := by simp [e4]
                          have E := Lib.hid (show G2 G x y a c ∨ G2 G x y c a from .inr ⟨HV.out.trans e4, HU.out.trans e3⟩)
                          clear e1 e3 e4
                          go_wp2_with fail
                          (refine region_tail 11 (by kernel_rfl) (by kernel_rfl) ?_; simp only [List.take_succ_cons, List.take_zero, List.drop_succ_cons, List.drop_zero]; (repeat (go_big_quiet_step (fail))); refine wpQuiet_nil ?_)
                          go_wp2_with fail
                          go_roundw
                          case rel => exact ⟨c + 1, by omega, by go_num, ((KD.out.below below_drew).set hla hlc q).congr fun u v _ _ => mS_put E.out u v, (KG.out.below below_drew).other _ n5, (K3.out.below below_drew).other _ n7, B.out.drew.setCell n9 _⟩
                          case measure => simp [intOf]; omega
                        · have t4 : (v == x) = false := beq_eq_false_iff_ne.2 e4
                          have E := Lib.hid (show ¬ (G2 G x y a c ∨ G2 G x y c a) from fun h => h.elim (fun h => e1 (HU.out.symm.trans h.1)) (fun h => e4 (HV.out.symm.trans h.1)))
                          clear e1 e3 e4
                          go_wp2_with fail
                          go_roundw
                          case rel => exact ⟨c + 1, by omega, by go_num, KD.out.congr fun u v _ _ => mS_skip E.out u v, KG.out, K3.out, B.out⟩
                          case measure => simp [intOf]; omega
                      · have t3 : (u == y) = false := beq_eq_false_iff_ne.2 e3
                        have E := Lib.hid (show ¬ (G2 G x y a c ∨ G2 G x y c a) from fun h => h.elim (fun h => e1 (HU.out.symm.trans h.1)) (fun h => e3 (HU.out.symm.trans h.2)))
                        clear e1 e3
                        go_wp2_with fail
                        go_roundw
                        case rel => exact ⟨c + 1, by omega, by go_num, KD.out.congr fun u v _ _ => mS_skip E.out u v, KG.out, K3.out, B.out⟩
                        case measure => simp [intOf]; omega
                  · obtain rfl : c = k := by omega
                    go_wp2_with fail
                    go_roundw
                    case rel => exact ⟨a + 1, by omega, by go_num, KD.out.congr fun u v hu hv => mS_row hv, KG.out, K3.out, B.out⟩
                    case measure => simp [intOf]; omega
              · obtain rfl : a = k := by omega
                have KDE := Lib.hid (KD.out.congr fun u v hu hv => mS_end hu)
                rw [SN.out.symm] at KDE
                have hk6 : d < 6 := by have := HPN.out; omega
                have KR := Lib.hid (show Blk wr g5 3 (ic (tabI (rl G y x 0) a)) by rw [rl_zero GL.out]; exact KG.out)
                clear KD KG
                go_wp2_with fail
                go_loopw [13] (fun v13 wr => ∃ c : Nat, c ≤ a ∧ v13 = .int .i64 c ∧ Sq wr lo g0 g4 HS a (sK xss a (d + 1)) ∧ Blk wr g5 3 (ic (tabI (rl G y x c) a)) ∧ Blk wr g3 35 (jc Ns) ∧ Below w.heap.size w wr) (fun v13 _ => a - (intOf v13).toNat)
                case atStart => exact ⟨0, Nat.zero_le _, rfl, KDE.out, KR.out, K3.out, B.out⟩
                case round =>
                  clear KDE KR K3 B zl
                  obtain ⟨c, hc, rfl, kD, kG, k3, b⟩ := hrel
                  have KD := Lib.hid kD
                  have KG := Lib.hid kG
                  have K3 := Lib.hid k3
                  have B := Lib.hid b
                  have zl := b.size
                  clear kD kG k3 b
                  by_cases hlc : c < a
                  · have c1 := KG.out.cell (get_ic (xs := tabI (rl G y x c) a) (k := c) (by rw [tabI_length]; exact hlc))
                    rw [gi_tabI hlc, rl_self] at c1
                    have f1 := KG.out.frozen c
                    obtain ⟨u, hu⟩ : ∃ u, gi G c = u := ⟨_, rfl⟩
                    rw [hu] at c1
                    by_cases e1 : u = y
                    · have t1 : (u == y) = true := by simp [e1]
                      have E := Lib.hid (hu.trans e1)
                      clear e1 hu
                      go_wp2_with fail
                      go_roundw
                      case rel =>
                        refine ⟨c + 1, by omega, by go_num, KD.out.oth _ (fun e => SEP4 e.symm) (fun j hj => SEP.out j hj), ?_, K3.out.other _ (by show g5 ≠ g3; omega), B.out.setCell (by show w.heap.size ≤ g5; omega) _⟩
                        rw [← tab_set (f := rl G y x c) (x := c) (v := x) fun j _ => rl_put E.out j]
                        exact KG.out.set c _
                      case measure => simp [intOf]; omega
                    · have t1 : (u == y) = false := beq_eq_false_iff_ne.2 e1
                      have E := Lib.hid (show gi G c ≠ y from fun h => e1 (hu.symm.trans h))
                      clear e1 hu
                      go_wp2_with fail
                      go_roundw
                      case rel => exact ⟨c + 1, by omega, by go_num, KD.out, by rw [← tabI_congr (f := rl G y x c) fun j _ => rl_skip E.out j]; exact KG.out, K3.out, B.out⟩
                      case measure => simp [intOf]; omega
                  · obtain rfl : c = a := by omega
                    have KGE := Lib.hid (show Blk _ g5 3 (ic (gI c (oF (fNear xss) c (d + 1)))) by rw [GN.out, ← rl_end GL.out]; exact KG.out)
                    clear KG
                    go_wp2_with fail
                    go_roundw
                    case rel => exact ⟨d + 1, by omega, by go_num, KD.out, KGE.out, K3.out, B.out⟩
                    case measure => simp [intOf]; omega
          · obtain rfl : d = p := by omega
            have KE := Lib.hid (KD.out.mono z1 (Nat.le_of_lt (Nat.lt_of_le_of_lt hg3 ll)))
            clear KD KG K3
            go_wp2_with fail
            go_ret
            exact ⟨_, _, _, rfl, KE.out, B.out⟩

end Go.Proofs.Ytclfjnoedcimiaa
