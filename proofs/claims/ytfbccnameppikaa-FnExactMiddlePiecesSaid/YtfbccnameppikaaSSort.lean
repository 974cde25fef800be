/- spec.sorted: the numbers by size. -/
import Derived.Test.YtfbccnameppikaaAppS
import Derived.Test.YtfbccnameppikaaTab
import Derived.Deep.RegionHeld3
import Derived.Deep.AppendLies
import Derived.Deep.DeepCutAuto
namespace Go.Proofs.Ytfbccnameppikaa
open Go.RowKit

set_option maxHeartbeats 4000000 in
theorem ssorted_own (b o c : Nat) (xs : List Int) (w : World) (h : RowI w b o xs) (hl : xs.length ≤ 1000) :
    Calls Try.prog 59 #[.slice (some ⟨b, o, none⟩) xs.length c] w
      fun e w' => ∃ g cap, e = .returned (.slice (some ⟨g, 0, none⟩) xs.length cap) ∧ OwnI w' w.heap.size (.slice (some ⟨g, 0, none⟩) xs.length cap) xs.length (srt xs) ∧ Below w.heap.size w w' := by
  have H := Lib.hid h
  clear h
  go_enter Try.func59, Try.ntmps59
  go_wp2_with fail
  go_loopw [3, 4] (fun v3 v4 wr => ∃ i g cap : Nat, i ≤ xs.length ∧ v4 = .int .i64 i ∧ v3 = .slice (some ⟨g, 0, none⟩) i cap ∧ OwnI wr w.heap.size v3 i (srtI xs i) ∧ Below w.heap.size w wr) (fun _ v4 _ => xs.length - (intOf v4).toNat)
  case atStart => exact ⟨0, _, _, Nat.zero_le _, rfl, rfl, OwnI.empty _ _ (Nat.le_refl _) _ rfl, by (repeat' (first | (with_reducible exact Below.refl _ _) | (with_reducible assumption) | (with_reducible refine Below.drewN ?_ _) | (with_reducible refine Below.alloc ?_ ?_ _) | (with_reducible refine Below.drew ?_) | (with_reducible refine Below.setCell ?_ ?_ _) | (with_reducible refine Below.trans ?_ (Below.mono (by assumption) ?_)) | go_size | (with_reducible refine Nat.le_trans ?_ (Below.size (by assumption)))))⟩
  case round =>
    obtain ⟨i, g, cap, hi, rfl, rfl, hown, hb⟩ := hrel
    have HO := Lib.hid hown
    have hcap := hown.cap
    have hz := hb.size
    have hgb := (Blk.of_own hown).2
    have hrow := (Blk.of_own hown).1.row
    have HR := Lib.hid hrow
    clear hown hrow
    have hL := srtI_length xs i
    by_cases hlt : i < xs.length
    · have hst : srtI xs (i + 1) = insK id (gi xs i) (srtI xs i) := rfl
      have hsr := srtI_srt xs i
      obtain ⟨L, hLe⟩ : ∃ L, srtI xs i = L := ⟨_, rfl⟩
      rw [hLe] at hst hsr hL
      have HST := Lib.hid hst
      have HSR := Lib.hid hsr
      have HL := Lib.hid hL
      obtain ⟨x, hx⟩ : ∃ x, gi xs i = x := ⟨_, rfl⟩
      have HX := Lib.hid hx
      have HLE := Lib.hid hLe
      clear hst hsr hL hLe hx
      obtain ⟨wo, rfl⟩ : ∃ wo : World, wo = wr := ⟨_, rfl⟩
      go_wp2_with fail
      go_loopw [5] (fun v5 wr => ∃ k : Nat, k ≤ i ∧ v5 = .int .i64 k ∧ (∀ j, j < k → gi L j ≤ x) ∧ ∃ n, wr = wo.drewN n) (fun v5 _ => i - (intOf v5).toNat)
      case atStart => exact ⟨0, Nat.zero_le _, rfl, fun j hj => absurd hj (Nat.not_lt_zero _), 0, rfl⟩
      case round =>
        obtain ⟨k, hk, rfl, hle, n, rfl⟩ := hrel
        have HLL := Lib.hid hle
        clear hle
        have c2 := (H.out.below hb).cell i hlt
        rw [HX.out] at c2
        by_cases hgo : k < i ∧ gi L k ≤ x
        · have hkl := hgo.1
          have c1 := HR.out.cell k (by rw [HLE.out, HL.out]; omega)
          rw [HLE.out, Nat.zero_add] at c1
          obtain ⟨y, hy⟩ : ∃ y, gi L k = y := ⟨_, rfl⟩
          rw [hy] at c1 hgo
          have HY := Lib.hid hy
          have hcmp : decide (y ≤ x) = true := by simpa using hgo.2
          clear hy
          have q1 : (k : Int) < (i : Int) := by omega
          have HG := Lib.hid hgo.2
          clear hgo
          go_wp2_with fail
          go_quiet (fail)
          go_wp2_with fail
          go_roundw
          case rel => exact ⟨k + 1, by omega, by go_num, fun j hj => by by_cases e : j = k; (· subst e; rw [HY.out]; exact HG.out); exact HLL.out j (by omega), n + nq, by simp⟩
          case measure => simp [intOf]; omega
        · have hins : insK id x L = L.take k ++ x :: L.drop k := ins_at HSR.out (by rw [HL.out]; omega) HLL.out (fun h => by
            rw [HL.out] at h
            have : ¬ gi L k ≤ x := fun e => hgo ⟨h, e⟩
            simp only [id]
            omega)
          have HI := Lib.hid hins
          have HGO := Lib.hid hgo
          clear hins hgo
          have hrowk := HR.out.news 0 k (by rw [HLE.out, HL.out]; omega)
          have hrowd := HR.out.news k (i - k) (by rw [HLE.out, HL.out]; omega)
          rw [HLE.out, Nat.zero_add] at hrowk hrowd
          have hbn : Below wo.heap.size wo (wo.drewN n) := Below.drewN (Below.refl _ _) n
          have HRK := Lib.hid hrowk
          have HRD := Lib.hid hrowd
          have hbo : ∀ {W : World} {p : Addr} {v : Value}, Below wo.heap.size wo W → wo.cell? p = some v → W.cell? p = some v := fun hb h => (hb.cell (World.block_lt_of_cell? wo _ h)).trans h
          have HBO := Lib.hid (show ∀ (W : World) (p : Addr) (v : Value), Below wo.heap.size wo W → wo.cell? p = some v → W.cell? p = some v from fun _ _ _ hb h => hbo hb h)
          clear hrowk hrowd hbo
          have hlk : (ic ((L.drop 0).take k)).length = k := by rw [ic_length, List.length_take, List.length_drop, HL.out]; omega
          have hld : (ic ((L.drop k).take (i - k))).length = i - k := by rw [ic_length, List.length_take, List.length_drop, HL.out]; omega
          by_cases hkl : k < i
          · have c1 := HR.out.cell k (by rw [HLE.out, HL.out]; omega)
            rw [HLE.out, Nat.zero_add] at c1
            obtain ⟨y, hy⟩ : ∃ y, gi L k = y := ⟨_, rfl⟩
            rw [hy] at c1
            have hcmp : decide (y ≤ x) = false := by
              have := HGO.out
              rw [hy] at this
              simp only [decide_eq_false_iff_not]
              exact fun e => this ⟨hkl, e⟩
            have q1 : (k : Int) < (i : Int) := by omega
            clear hy
            go_wp2_with fail
            go_quiet (fail)
            clear c1
            have q2 : (k : Int) ≤ (cap : Int) := by omega
            have q3 : (k : Int) ≤ (i : Int) := by omega
            have q4 : ¬ cap = k := by omega
            have q5 : (0 : Int) ≤ (k : Int) := by omega
            have q6 : (i : Int) ≤ (cap : Int) := by omega
            go_wp2_with fail
            have hn2 : Below wo.heap.size wo (wo.drewN (n + nq)) := Below.drewN (Below.refl _ _) _
            go_region_held3 (fun w' => w'.cell? ⟨b, o + i, none⟩ = some (.int .i64 x) ∧ Below wo.heap.size wo w')
              ((exact keepBX c2 (by (repeat' (first | (with_reducible exact Below.refl _ _) | (with_reducible assumption) | (with_reducible refine Below.drewN ?_ _) | (with_reducible refine Below.alloc ?_ ?_ _) | (with_reducible refine Below.drew ?_) | (with_reducible refine Below.setCell ?_ ?_ _) | (with_reducible refine Below.trans ?_ (Below.mono (by assumption) ?_)) | go_size | (with_reducible refine Nat.le_trans ?_ (Below.size (by assumption))))))))
              ((first
                | ((refine step_appS (by rfl) (.tmp 30) (.tmp 33) 23 (by rfl) wo.heap.size 3 (.int .i64 0) 8 Try.underlying23 infoI rfl (by decide) (.slice (some ⟨_, 0, none⟩) 0 0) 0 [] (by rfl) ⟨g, 0, none⟩ k _ (ic ((L.drop 0).take k)) (by rfl) ?_ hlk ?_ ic_one (by omega) ?_ ?_); (focus (first | exact own0 (by simp) (by simp) | exact World.ownsRow.alloc (own0 (by simp) (by simp)) _)); (focus (intro j u hu; exact HBO.out _ _ _ (by (repeat' (first | (with_reducible exact Below.refl _ _) | (with_reducible assumption) | (with_reducible refine Below.drewN ?_ _) | (with_reducible refine Below.alloc ?_ ?_ _) | (with_reducible refine Below.drew ?_) | (with_reducible refine Below.setCell ?_ ?_ _) | (with_reducible refine Below.trans ?_ (Below.mono (by assumption) ?_)) | go_size | (with_reducible refine Nat.le_trans ?_ (Below.size (by assumption)))))) (HRK.out j u hu))); (focus (first | (simp; done) | omega | (simp; omega))); intro v1 w1 o1 g1 n1; have b1 := Below.app (B := wo.heap.size) (by first | exact (own0 (t := 3) (by simp) (by simp)) | exact World.ownsRow.alloc (own0 (t := 3) (by simp) (by simp)) _) (by first | (simp; done) | (simp; omega)) g1; have z1 : wo.heap.size ≤ w1.heap.size := Nat.le_trans (by first | (simp; done) | (simp; omega)) b1.size)
                | ((refine step_appS (by rfl) (.tmp 34) (.tmp 39) 23 (by rfl) wo.heap.size 3 (.int .i64 0) 8 Try.underlying23 infoI rfl (by decide) _ (0 + k) ([] ++ ic ((L.drop 0).take k)) (by rfl) ⟨_, 0, none⟩ 1 _ [.int .i64 x] (by rfl) ?_ rfl ?_ (one_one _) (by omega) ?_ ?_); (focus (first | exact o1 | exact World.ownsRow.alloc o1 _)); (focus (first | exact cell_one_new _ _ _ | (refine news_one ((g1.cell_far _ ?_ ?_).trans ?_) <;> first | (exact cell_xy (by simp)) | (simp [Value.ownBlock]; done) | (simp [go_sem]; done)))); (focus (first | (simp; done) | omega | (simp; omega))); intro v2 w2 o2 g2 n2; have b2 := Below.app (B := wo.heap.size) (by first | exact o1 | exact World.ownsRow.alloc o1 _) (by first | omega | (simp; omega)) g2; have z2 : wo.heap.size ≤ w2.heap.size := Nat.le_trans (by first | omega | (simp; omega)) b2.size)
                | ((refine step_appS (by rfl) (.tmp 40) (.tmp 43) 23 (by rfl) wo.heap.size 3 (.int .i64 0) 8 Try.underlying23 infoI rfl (by decide) _ (0 + k + 1) ([] ++ ic ((L.drop 0).take k) ++ [.int .i64 x]) (by rfl) ⟨g, k, none⟩ (i - k) _ (ic ((L.drop k).take (i - k))) (by rfl) ?_ hld ?_ ic_one (by omega) ?_ ?_); (focus exact o2); (focus (intro j u hu; exact HBO.out _ _ _ (by (repeat' (first | (with_reducible exact Below.refl _ _) | (with_reducible assumption) | (with_reducible refine Below.drewN ?_ _) | (with_reducible refine Below.alloc ?_ ?_ _) | (with_reducible refine Below.drew ?_) | (with_reducible refine Below.setCell ?_ ?_ _) | (with_reducible refine Below.trans ?_ (Below.mono (by assumption) ?_)) | go_size | (with_reducible refine Nat.le_trans ?_ (Below.size (by assumption)))))) (HRD.out j u hu))); (focus (first | (simp; done) | omega | (simp; omega))); intro v3 w3 o3 g3 n3; have b3 := Below.app (B := wo.heap.size) o2 (by omega) g3; have z3 : wo.heap.size ≤ w3.heap.size := Nat.le_trans z2 b3.size)))
            all_goals
              have hbw : Below wo.heap.size wo w3 := by (repeat' (first | (with_reducible exact Below.refl _ _) | (with_reducible assumption) | (with_reducible refine Below.drewN ?_ _) | (with_reducible refine Below.alloc ?_ ?_ _) | (with_reducible refine Below.drew ?_) | (with_reducible refine Below.setCell ?_ ?_ _) | (with_reducible refine Below.trans ?_ (Below.mono (by assumption) ?_)) | go_size | (with_reducible refine Nat.le_trans ?_ (Below.size (by assumption)))))
              have HO3 := Lib.hid o3
              have HBW := Lib.hid hbw
              obtain ⟨g4, cap4, rfl, hg4, hlt4⟩ := World.ownsRow.form o3 (by omega)
              clear o1 o2 o3 g1 g2 g3 b1 b2 b3 n1 n2 n3 hbw
              go_wp2_with fail
              go_roundw
              case rel =>
                have e : 0 + k + 1 + (i - k) = i + 1 := by omega
                have ho := HO3.out
                rw [e] at ho ⊢
                have e2 : ic (srtI xs (i + 1)) = [] ++ ic ((L.drop 0).take k) ++ [.int .i64 x] ++ ic ((L.drop k).take (i - k)) := by rw [srtI, HX.out, HLE.out, HI.out, List.take_of_length_le (l := L.drop k) (by rw [List.length_drop, HL.out]; omega), List.drop_zero]; simp [ic]
                refine ⟨i + 1, g4, cap4, by omega, by go_num, rfl, ?_, hb.trans (HBW.out.mono hz)⟩
                unfold OwnI
                rw [e2]
                exact own_mono ho hz
              case measure => simp [intOf]; omega
          · obtain rfl : i = k := by omega
            go_wp2_with fail
            go_quiet (fail)
            by_cases hck : cap = i
            · obtain rfl : i = cap := hck.symm
              go_wp2_with fail
              have hn2 : Below wo.heap.size wo (wo.drewN (n + nq)) := Below.drewN (Below.refl _ _) _
              go_region_held3 (fun w' => w'.cell? ⟨b, o + i, none⟩ = some (.int .i64 x) ∧ Below wo.heap.size wo w')
                ((exact keepBX c2 (by (repeat' (first | (with_reducible exact Below.refl _ _) | (with_reducible assumption) | (with_reducible refine Below.drewN ?_ _) | (with_reducible refine Below.alloc ?_ ?_ _) | (with_reducible refine Below.drew ?_) | (with_reducible refine Below.setCell ?_ ?_ _) | (with_reducible refine Below.trans ?_ (Below.mono (by assumption) ?_)) | go_size | (with_reducible refine Nat.le_trans ?_ (Below.size (by assumption))))))))
                ((first
                  | ((refine step_appS (by rfl) (.tmp 30) (.tmp 33) 23 (by rfl) wo.heap.size 3 (.int .i64 0) 8 Try.underlying23 infoI rfl (by decide) (.slice (some ⟨_, 0, none⟩) 0 0) 0 [] (by rfl) ⟨g, 0, none⟩ i _ (ic ((L.drop 0).take i)) (by rfl) ?_ hlk ?_ ic_one (by omega) ?_ ?_); (focus (first | exact own0 (by simp) (by simp) | exact World.ownsRow.alloc (own0 (by simp) (by simp)) _)); (focus (intro j u hu; exact HBO.out _ _ _ (by (repeat' (first | (with_reducible exact Below.refl _ _) | (with_reducible assumption) | (with_reducible refine Below.drewN ?_ _) | (with_reducible refine Below.alloc ?_ ?_ _) | (with_reducible refine Below.drew ?_) | (with_reducible refine Below.setCell ?_ ?_ _) | (with_reducible refine Below.trans ?_ (Below.mono (by assumption) ?_)) | go_size | (with_reducible refine Nat.le_trans ?_ (Below.size (by assumption)))))) (HRK.out j u hu))); (focus (first | (simp; done) | omega | (simp; omega))); intro v1 w1 o1 g1 n1; have b1 := Below.app (B := wo.heap.size) (by first | exact (own0 (t := 3) (by simp) (by simp)) | exact World.ownsRow.alloc (own0 (t := 3) (by simp) (by simp)) _) (by first | (simp; done) | (simp; omega)) g1; have z1 : wo.heap.size ≤ w1.heap.size := Nat.le_trans (by first | (simp; done) | (simp; omega)) b1.size)
                  | ((refine step_appS (by rfl) (.tmp 34) (.tmp 39) 23 (by rfl) wo.heap.size 3 (.int .i64 0) 8 Try.underlying23 infoI rfl (by decide) _ (0 + i) ([] ++ ic ((L.drop 0).take i)) (by rfl) ⟨_, 0, none⟩ 1 _ [.int .i64 x] (by rfl) ?_ rfl ?_ (one_one _) (by omega) ?_ ?_); (focus (first | exact o1 | exact World.ownsRow.alloc o1 _)); (focus (first | exact cell_one_new _ _ _ | (refine news_one ((g1.cell_far _ ?_ ?_).trans ?_) <;> first | (exact cell_xy (by simp)) | (simp [Value.ownBlock]; done) | (simp [go_sem]; done)))); (focus (first | (simp; done) | omega | (simp; omega))); intro v2 w2 o2 g2 n2; have b2 := Below.app (B := wo.heap.size) (by first | exact o1 | exact World.ownsRow.alloc o1 _) (by first | omega | (simp; omega)) g2; have z2 : wo.heap.size ≤ w2.heap.size := Nat.le_trans (by first | omega | (simp; omega)) b2.size)
                  | ((refine step_appS (by rfl) (.tmp 40) (.tmp 43) 23 (by rfl) wo.heap.size 3 (.int .i64 0) 8 Try.underlying23 infoI rfl (by decide) _ (0 + i + 1) ([] ++ ic ((L.drop 0).take i) ++ [.int .i64 x]) (by rfl) _ 0 _ [] (by rfl) ?_ rfl ?_ (fun u hu => by cases hu) (by omega) ?_ ?_); (focus exact o2); (focus (intro j u hu; simp at hu)); (focus (first | (simp; done) | omega | (simp; omega))); intro v3 w3 o3 g3 n3; have b3 := Below.app (B := wo.heap.size) o2 (by omega) g3; have z3 : wo.heap.size ≤ w3.heap.size := Nat.le_trans z2 b3.size)))
              all_goals
                have hbw : Below wo.heap.size wo w3 := by (repeat' (first | (with_reducible exact Below.refl _ _) | (with_reducible assumption) | (with_reducible refine Below.drewN ?_ _) | (with_reducible refine Below.alloc ?_ ?_ _) | (with_reducible refine Below.drew ?_) | (with_reducible refine Below.setCell ?_ ?_ _) | (with_reducible refine Below.trans ?_ (Below.mono (by assumption) ?_)) | go_size | (with_reducible refine Nat.le_trans ?_ (Below.size (by assumption)))))
                have HO3 := Lib.hid o3
                have HBW := Lib.hid hbw
                obtain ⟨g4, cap4, rfl, hg4, hlt4⟩ := World.ownsRow.form o3 (by omega)
                clear o1 o2 o3 g1 g2 g3 b1 b2 b3 n1 n2 n3 hbw
                go_wp2_with fail
                go_roundw
                case rel =>
                  have e : 0 + i + 1 + 0 = i + 1 := by omega
                  have ho := HO3.out
                  rw [e] at ho ⊢
                  have e2 : ic (srtI xs (i + 1)) = [] ++ ic ((L.drop 0).take i) ++ [.int .i64 x] ++ [] := by rw [srtI, HX.out, HLE.out, HI.out, List.drop_eq_nil_of_le (by rw [HL.out]; omega), List.drop_zero]; simp [ic]
                  refine ⟨i + 1, g4, cap4, by omega, by go_num, rfl, ?_, hb.trans (HBW.out.mono hz)⟩
                  unfold OwnI
                  rw [e2]
                  exact own_mono ho hz
                case measure => simp [intOf]; omega
            · go_wp2_with fail
              have hn2 : Below wo.heap.size wo (wo.drewN (n + nq)) := Below.drewN (Below.refl _ _) _
              go_region_held3 (fun w' => w'.cell? ⟨b, o + i, none⟩ = some (.int .i64 x) ∧ Below wo.heap.size wo w')
                ((exact keepBX c2 (by (repeat' (first | (with_reducible exact Below.refl _ _) | (with_reducible assumption) | (with_reducible refine Below.drewN ?_ _) | (with_reducible refine Below.alloc ?_ ?_ _) | (with_reducible refine Below.drew ?_) | (with_reducible refine Below.setCell ?_ ?_ _) | (with_reducible refine Below.trans ?_ (Below.mono (by assumption) ?_)) | go_size | (with_reducible refine Nat.le_trans ?_ (Below.size (by assumption))))))))
                ((first
                  | ((refine step_appS (by rfl) (.tmp 30) (.tmp 33) 23 (by rfl) wo.heap.size 3 (.int .i64 0) 8 Try.underlying23 infoI rfl (by decide) (.slice (some ⟨_, 0, none⟩) 0 0) 0 [] (by rfl) ⟨g, 0, none⟩ i _ (ic ((L.drop 0).take i)) (by rfl) ?_ hlk ?_ ic_one (by omega) ?_ ?_); (focus (first | exact own0 (by simp) (by simp) | exact World.ownsRow.alloc (own0 (by simp) (by simp)) _)); (focus (intro j u hu; exact HBO.out _ _ _ (by (repeat' (first | (with_reducible exact Below.refl _ _) | (with_reducible assumption) | (with_reducible refine Below.drewN ?_ _) | (with_reducible refine Below.alloc ?_ ?_ _) | (with_reducible refine Below.drew ?_) | (with_reducible refine Below.setCell ?_ ?_ _) | (with_reducible refine Below.trans ?_ (Below.mono (by assumption) ?_)) | go_size | (with_reducible refine Nat.le_trans ?_ (Below.size (by assumption)))))) (HRK.out j u hu))); (focus (first | (simp; done) | omega | (simp; omega))); intro v1 w1 o1 g1 n1; have b1 := Below.app (B := wo.heap.size) (by first | exact (own0 (t := 3) (by simp) (by simp)) | exact World.ownsRow.alloc (own0 (t := 3) (by simp) (by simp)) _) (by first | (simp; done) | (simp; omega)) g1; have z1 : wo.heap.size ≤ w1.heap.size := Nat.le_trans (by first | (simp; done) | (simp; omega)) b1.size)
                  | ((refine step_appS (by rfl) (.tmp 34) (.tmp 39) 23 (by rfl) wo.heap.size 3 (.int .i64 0) 8 Try.underlying23 infoI rfl (by decide) _ (0 + i) ([] ++ ic ((L.drop 0).take i)) (by rfl) ⟨_, 0, none⟩ 1 _ [.int .i64 x] (by rfl) ?_ rfl ?_ (one_one _) (by omega) ?_ ?_); (focus (first | exact o1 | exact World.ownsRow.alloc o1 _)); (focus (first | exact cell_one_new _ _ _ | (refine news_one ((g1.cell_far _ ?_ ?_).trans ?_) <;> first | (exact cell_xy (by simp)) | (simp [Value.ownBlock]; done) | (simp [go_sem]; done)))); (focus (first | (simp; done) | omega | (simp; omega))); intro v2 w2 o2 g2 n2; have b2 := Below.app (B := wo.heap.size) (by first | exact o1 | exact World.ownsRow.alloc o1 _) (by first | omega | (simp; omega)) g2; have z2 : wo.heap.size ≤ w2.heap.size := Nat.le_trans (by first | omega | (simp; omega)) b2.size)
                  | ((refine step_appS (by rfl) (.tmp 40) (.tmp 43) 23 (by rfl) wo.heap.size 3 (.int .i64 0) 8 Try.underlying23 infoI rfl (by decide) _ (0 + i + 1) ([] ++ ic ((L.drop 0).take i) ++ [.int .i64 x]) (by rfl) _ 0 _ [] (by rfl) ?_ rfl ?_ (fun u hu => by cases hu) (by omega) ?_ ?_); (focus exact o2); (focus (intro j u hu; simp at hu)); (focus (first | (simp; done) | omega | (simp; omega))); intro v3 w3 o3 g3 n3; have b3 := Below.app (B := wo.heap.size) o2 (by omega) g3; have z3 : wo.heap.size ≤ w3.heap.size := Nat.le_trans z2 b3.size)))
              all_goals
                have hbw : Below wo.heap.size wo w3 := by (repeat' (first | (with_reducible exact Below.refl _ _) | (with_reducible assumption) | (with_reducible refine Below.drewN ?_ _) | (with_reducible refine Below.alloc ?_ ?_ _) | (with_reducible refine Below.drew ?_) | (with_reducible refine Below.setCell ?_ ?_ _) | (with_reducible refine Below.trans ?_ (Below.mono (by assumption) ?_)) | go_size | (with_reducible refine Nat.le_trans ?_ (Below.size (by assumption)))))
                have HO3 := Lib.hid o3
                have HBW := Lib.hid hbw
                obtain ⟨g4, cap4, rfl, hg4, hlt4⟩ := World.ownsRow.form o3 (by omega)
                clear o1 o2 o3 g1 g2 g3 b1 b2 b3 n1 n2 n3 hbw
                go_wp2_with fail
                go_roundw
                case rel =>
                  have e : 0 + i + 1 + 0 = i + 1 := by omega
                  have ho := HO3.out
                  rw [e] at ho ⊢
                  have e2 : ic (srtI xs (i + 1)) = [] ++ ic ((L.drop 0).take i) ++ [.int .i64 x] ++ [] := by rw [srtI, HX.out, HLE.out, HI.out, List.drop_eq_nil_of_le (by rw [HL.out]; omega), List.drop_zero]; simp [ic]
                  refine ⟨i + 1, g4, cap4, by omega, by go_num, rfl, ?_, hb.trans (HBW.out.mono hz)⟩
                  unfold OwnI
                  rw [e2]
                  exact own_mono ho hz
                case measure => simp [intOf]; omega
    · obtain rfl : i = xs.length := by omega
      have HBB := Lib.hid hb
      clear hb
      go_wp2_with fail
      go_ret
      exact ⟨_, _, rfl, HO.out, HBB.out⟩

theorem ssorted_any (b o c : Nat) (xs : List Int) (w : World) (h : RowI w b o xs) (hl : xs.length ≤ 1000) :
    Calls Try.prog 59 #[.slice (some ⟨b, o, none⟩) xs.length c] w
      fun e w' => ∃ g cap, e = .returned (.slice (some ⟨g, 0, none⟩) xs.length cap) ∧ w.heap.size ≤ g ∧ RowI w' g 0 (srt xs) ∧ Below w.heap.size w w' :=
  (ssorted_own b o c xs w h hl).mono fun _ _ ⟨g, cap, h1, h2, h3⟩ => ⟨g, cap, h1, (Blk.of_own h2).2, (Blk.of_own h2).1.row, h3⟩

end Go.Proofs.Ytfbccnameppikaa
