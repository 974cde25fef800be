/- The draws of the reference: spec.drawFrom. -/
import Derived.Test.YtpcnjkgoehepaaaDrawP
import Derived.Test.YtpcnjkgoehepaaaAppS
import Derived.Test.YtpcnjkgoehepaaaTail
import Derived.Deep.RegionHeld3
import Derived.Deep.AppendLies
import Derived.Deep.DeepCutAuto
namespace Go.Proofs.Ytpcnjkgoehepaaa
open Go.RowKit

theorem wpList_appS {P : Program} {w : World} {ops : Array Oper} {rest : List Oper} {o : Oper} {a : Act} {Q : Exit → Act → World → Prop} (hgd : o.guard = none) (s x : Operand) (t : TypeId)
    (ho : o.op = .call { callee := .builtin .append, args := #[s, x], argTypes := #[t, t] }) (base : Nat) (e : TypeId) (z : Value) (bytes : Nat)
    (ht : P.underlying t = some (.slice e)) (hinfo : (P.info? e).map (fun i => (i.zero, i.size, i.bytes)) = some (some z, 1, bytes)) (hzs : z.cells.size = 1) (hb64 : bytes ≤ 64)
    (v : Value) (n : Nat) (xs : List Value) (hs : a.eval s = v) (hown : w.ownsRow base e 1 v n xs) (ad : Addr) (m c : Nat) (news : List Value) (hx : a.eval x = .slice (some ad) m c)
    (hl : news.length = m) (hnews : ∀ j u, news[j]? = some u → w.cell? (ad.add j) = some u) (h1 : ∀ u ∈ news, u.oneCell' = true)
    (hn : n + m < 1099511627776) (hbase : base ≤ w.heap.size)
    (h : ∀ v' w', w'.ownsRow base e 1 v' (n + m) (xs ++ news) → w.grownBy w' v.ownBlock → (v' = .slice none 0 0 → v = .slice none 0 0) → wpList P ops Q rest (a.put o.dst v') w') : wpList P ops Q (o :: rest) a w := by
  refine wpList_plain hgd fun K hK => ?_
  obtain ⟨v', w', hr, o1, o2, o3⟩ := run_appS (P := P) t o.type base e z bytes ht hinfo hzs hb64 v n xs hown ad m c news hl hnews h1 hn hbase
  unfold Oper.wp execOp
  simp only [ho, resolve, invoke, builtin, Sem.run_bind, Sem.run_pure, Result.andThen_ok, List.map_toArray, List.map_cons, List.map_nil, hs, hx, hr]
  exact hK _ _ (h v' w' o1 o2 o3)

theorem RowI.cells0 {w : World} {g : Nat} {xs : List Int} (h : RowI w g 0 xs) : ∀ j v, (ic xs)[j]? = some v → w.cell? ((⟨g, 0, none⟩ : Addr).add j) = some v := by
  intro j v hj
  have := h.news 0 xs.length (by omega) j v
  rw [List.drop_zero, List.take_length, Nat.zero_add] at this
  exact this hj

theorem RowI.oth {w : World} {b o : Nat} {xs : List Int} {a : Addr} {v : Value} (h : RowI w b o xs) (ha : b ≠ a.block) : RowI (w.setCell a v) b o xs :=
  ⟨by have := h.blk; simpa using this, fun k hk => (World.cell?_of_block (a := ⟨b, o + k, none⟩) (Below.heap_setCell _ a _ b ha)).trans (h.cell k hk)⟩
theorem ic_set2 (xs : List Int) (i : Nat) (v : Int) : (ic xs).set i (.int .i64 v) = ic (xs.set i v) := by
  unfold ic; rw [List.map_set]
/-- A row that the reference has made: where it lies. -/
structure DR (w : World) (base g c k : Nat) (xs : List Int) : Prop where
  base : base ≤ g
  cap : k ≤ c
  len : xs.length = k
  row : RowI w g 0 xs
theorem DR.below {w w' : World} {base g c k : Nat} {xs : List Int} (h : DR w base g c k xs) (hb : Below w.heap.size w w') : DR w' base g c k xs := ⟨h.base, h.cap, h.len, h.row.below hb⟩
theorem DR.of_own {w : World} {base base' g c k : Nat} {xs : List Int} (h : OwnI w base (.slice (some ⟨g, 0, none⟩) k c) k xs) (hb : base' ≤ base) : DR w base' g c k xs := ⟨Nat.le_trans hb (Blk.of_own h).2, OwnI.cap h, OwnI.len h, (Blk.of_own h).1.row⟩

set_option maxHeartbeats 8000000 in
set_option maxRecDepth 100000 in
theorem drawFrom_zero (v0 : Value) (s : Int) (B g3 c3 g4 c4 k : Nat) (L : List (Int × Int)) (w : World) (h3 : DR w B g3 c3 k (fS L)) (h4 : DR w B g4 c4 k (sS L)) (hk : k ≤ 1000000) (hB : B ≤ w.heap.size) (hc : ∀ j, j < k → -1000000 ≤ gi (sS L) j ∧ gi (sS L) j ≤ 1000000) :
    Calls Try.prog 33 #[v0, .int .i64 0, .int .i64 s, .slice (some ⟨g3, 0, none⟩) k c3, .slice (some ⟨g4, 0, none⟩) k c4] w
      fun e w' => ∃ g5 c5 g6 c6 k', e = .returned (.tuple #[.slice (some ⟨g5, 0, none⟩) k' c5, .slice (some ⟨g6, 0, none⟩) k' c6]) ∧ DR w' B g5 c5 k' (fS (insP s L)) ∧ DR w' B g6 c6 k' (sS (insP s L)) ∧ Below w.heap.size w w' := by
  have H3 := Lib.hid h3
  have H4 := Lib.hid h4
  have HC := Lib.hid hc
  have HLL := Lib.hid (show L.length = k by rw [← fS_length]; exact h3.len)
  have hk3 := h3.cap
  have hk4 := h4.cap
  clear h3 h4 hc
  go_enter Try.func33, Try.ntmps33
  go_wp2_with fail
  go_loopw [13] (fun v13 wr => ∃ q : Nat, q ≤ k ∧ v13 = .int .i64 q ∧ (∀ j, j < q → gi (fS L) j < s) ∧ wr = w) (fun v13 _ => k - (intOf v13).toNat)
  case atStart => exact ⟨0, Nat.zero_le _, rfl, fun j hj => absurd hj (Nat.not_lt_zero _), by trivial⟩
  case round =>
    obtain ⟨q, hq, rfl, hlo, rfl⟩ := hrel
    have HLO := Lib.hid hlo
    clear hlo
    by_cases hqk : q < k
    · have c1 := H3.out.row.cell q (by have := H3.out.len; omega)
      rw [Nat.zero_add] at c1
      obtain ⟨y, hy⟩ : ∃ y, gi (fS L) q = y := ⟨_, rfl⟩
      rw [hy] at c1
      have HY := Lib.hid hy
      have hqk' : (q : Int) < (k : Int) := by omega
      clear hy
      by_cases hys : y < s
      · have t1 : decide (y < s) = true := decide_eq_true hys
        have HS := Lib.hid hys
        clear hys
        go_wp2_with fail
        go_roundw
        case rel => exact ⟨q + 1, by omega, by go_num, fun j hj => by by_cases e : j = q; (· subst e; rw [HY.out]; exact HS.out); exact HLO.out j (by omega), by trivial⟩
        case measure => simp [intOf]; omega
      · have t1 : decide (y < s) = false := decide_eq_false hys
        by_cases hye : y = s
        · have t2 : (y == s) = true := by simp [hye]
          have OLD := Lib.hid (insP_old L q (by rw [HLL.out]; exact hqk) HLO.out (HY.out.trans hye))
          have cc := HC.out q hqk
          clear hye hys
          have HR4 := Lib.hid H4.out.row
          have HX4 := Lib.hid H4.out.len
          have hqk2 : q < k := hqk
          go_upto_region 12 with (at_builtin; refine wpList_appS rfl (.tmp 68) (.tmp 69) 23 rfl wr.heap.size 3 (.int .i64 0) 8 Try.underlying23 infoI rfl (by decide) _ 0 [] rfl (World.ownsRow_made (size := 1) wr #[] 0 (Nat.le_refl _) (by unfold maxLen; omega) rfl) ⟨g4, 0, none⟩ k c4 (ic (sS L)) rfl (by rw [ic_length]; exact HX4.out) (HR4.out.below below_alloc).cells0 ic_one (by omega) (by simp) ?_; intro v5 w5 o1 o2 o3)
          obtain ⟨g5, cap5, rfl, hg5⟩ : ∃ g cap, v5 = .slice (some ⟨g, 0, none⟩) (0 + k) cap ∧ wr.heap.size ≤ g := OwnI.shape (xs := sS L) (by rw [List.nil_append] at o1; exact o1) (by omega)
          rw [Nat.zero_add, List.nil_append] at o1
          rw [Nat.zero_add]
          have b5 : Below wr.heap.size wr w5 := below_alloc.trans (Below.app (B := wr.heap.size) (World.ownsRow_made (size := 1) wr #[] 0 (Nat.le_refl _) (by unfold maxLen; omega) rfl) (by simp) o2)
          have kb := (Blk.of_own o1).1
          have cap5' := OwnI.cap o1
          have c5 := kb.cell (get_ic (xs := sS L) (k := q) (by rw [HX4.out]; exact hqk2))
          have f5 := kb.frozen q
          obtain ⟨z, hz⟩ : ∃ z, gi (sS L) q = z := ⟨_, rfl⟩
          rw [hz] at c5 cc
          have HZ := Lib.hid hz
          have KB := Lib.hid kb
          have B5 := Lib.hid b5
          clear kb b5 o1 o2 o3 hz HLO HY
          go_wp2_with fail
          go_ret2
          refine ⟨g3, c3, g5, cap5, k, rfl, ⟨H3.out.base, hk3, ?_, ?_⟩, ⟨by omega, cap5', ?_, ?_⟩, B5.out.setCell (by show wr.heap.size ≤ g5; omega) _⟩
          · rw [OLD.out.1]; exact H3.out.len
          · rw [OLD.out.1]; exact (H3.out.row.below B5.out).oth (by have := H3.out.row.blk; show g3 ≠ g5; omega)
          · rw [OLD.out.2, List.length_set]; exact HX4.out
          · have kr := KB.out.set q (.int .i64 (z + 1))
            rw [ic_set2] at kr
            rw [OLD.out.2, HZ.out]
            exact kr.row
        · have t2 : (y == s) = false := beq_eq_false_iff_ne.2 hye
          have NEW := Lib.hid (insP_new L q (by rw [HLL.out]; exact hq) HLO.out (fun _ => by rw [HY.out]; omega))
          clear hye hys
          clear HLO
          have HXL3 := Lib.hid H3.out.len
          have HXL4 := Lib.hid H4.out.len
          have HRW3 := Lib.hid H3.out.row
          go_upto_region 10 with fail
          go_wp2_with fail
          go_cut [15] (fun s15 wx => ∃ g6 cap6, s15 = .slice (some ⟨g6, 0, none⟩) (k + 1) cap6 ∧ wx.ownsRow wr.heap.size 3 1 (.slice (some ⟨g6, 0, none⟩) (k + 1) cap6) (k + 1) (ic ((fS L).take q ++ s :: (fS L).drop q)) ∧ Below wr.heap.size wr wx)
          case first =>
            have HXL := HXL3
            have HROW := HRW3
            have HBO := Lib.hid (show ∀ (W : World) (p : Addr) (v : Value), Below wr.heap.size wr W → wr.cell? p = some v → W.cell? p = some v from fun _ _ _ hb h => (hb.cell (World.block_lt_of_cell? wr _ h)).trans h)
            have hrowk := HROW.out.news 0 q (by have := HXL.out; omega)
            have hrowd := HROW.out.news q (k - q) (by have := HXL.out; omega)
            rw [Nat.zero_add] at hrowk hrowd
            have HRK := Lib.hid hrowk
            have HRD := Lib.hid hrowd
            have hlk : (ic (((fS L).drop 0).take q)).length = q := by rw [ic_length, List.length_take, List.length_drop]; have := HXL.out; omega
            have hld : (ic (((fS L).drop q).take (k - q))).length = k - q := by rw [ic_length, List.length_take, List.length_drop]; have := HXL.out; omega
            clear hrowk hrowd HROW
            by_cases hkl : q < k
            · have q2 : (q : Int) ≤ (c3 : Int) := by omega
              have q3 : (q : Int) ≤ (k : Int) := by omega
              have q4 : ¬ c3 = q := by omega
              have q5 : (0 : Int) ≤ (q : Int) := by omega
              have q6 : (k : Int) ≤ (c3 : Int) := by omega
              have HLST := Lib.hid (show [] ++ ic (((fS L).drop 0).take q) ++ [.int .i64 s] ++ ic (((fS L).drop q).take (k - q)) = ic ((fS L).take q ++ s :: (fS L).drop q) by rw [List.take_of_length_le (l := (fS L).drop q) (by rw [List.length_drop]; have := HXL.out; omega), List.drop_zero]; simp [ic])
              go_region_held3 (fun w' => True ∧ Below wr.heap.size wr w')
                ((exact ⟨trivial, by (repeat' (first | (with_reducible exact Below.refl _ _) | (with_reducible assumption) | (with_reducible refine Below.drewN ?_ _) | (with_reducible refine Below.alloc ?_ ?_ _) | (with_reducible refine Below.drew ?_) | (with_reducible refine Below.setCell ?_ ?_ _) | (with_reducible refine Below.trans ?_ (Below.mono (by assumption) ?_)) | go_size | (with_reducible refine Nat.le_trans ?_ (Below.size (by assumption)))))⟩))
                ((first
                  | ((refine step_appS (by rfl) (.tmp 81) (.tmp 84) 23 (by rfl) wr.heap.size 3 (.int .i64 0) 8 Try.underlying23 infoI rfl (by decide) (.slice (some ⟨_, 0, none⟩) 0 0) 0 [] (by rfl) ⟨g3, 0, none⟩ q _ (ic (((fS L).drop 0).take q)) (by rfl) ?_ hlk ?_ ic_one (by omega) ?_ ?_); (focus (first | exact own0 (by simp) (by simp) | exact World.ownsRow.alloc (own0 (by simp) (by simp)) _)); (focus (intro j u hu; exact HBO.out _ _ _ (by (repeat' (first | (with_reducible exact Below.refl _ _) | (with_reducible assumption) | (with_reducible refine Below.drewN ?_ _) | (with_reducible refine Below.alloc ?_ ?_ _) | (with_reducible refine Below.drew ?_) | (with_reducible refine Below.setCell ?_ ?_ _) | (with_reducible refine Below.trans ?_ (Below.mono (by assumption) ?_)) | go_size | (with_reducible refine Nat.le_trans ?_ (Below.size (by assumption)))))) (HRK.out j u hu))); (focus (first | (simp; done) | omega | (simp; omega))); intro v1 w1 o1 g1 n1; have b1 := Below.app (B := wr.heap.size) (by first | exact (own0 (t := 3) (by simp) (by simp)) | exact World.ownsRow.alloc (own0 (t := 3) (by simp) (by simp)) _) (by first | (simp; done) | (simp; omega)) g1; have z1 : wr.heap.size ≤ w1.heap.size := Nat.le_trans (by first | (simp; done) | (simp; omega)) b1.size)
                  | ((refine step_appS (by rfl) (.tmp 85) (.tmp 87) 23 (by rfl) wr.heap.size 3 (.int .i64 0) 8 Try.underlying23 infoI rfl (by decide) _ (0 + q) ([] ++ ic (((fS L).drop 0).take q)) (by rfl) ⟨_, 0, none⟩ 1 _ [.int .i64 s] (by rfl) ?_ rfl ?_ (one_one _) (by omega) ?_ ?_); (focus (first | exact o1 | exact World.ownsRow.alloc o1 _)); (focus (first | exact cell_one_new _ _ _ | (refine news_one ((g1.cell_far _ ?_ ?_).trans ?_) <;> first | (exact cell_xy (by simp)) | (simp [Value.ownBlock]; done) | (simp [go_sem]; done)))); (focus (first | (simp; done) | omega | (simp; omega))); intro v2 w2 o2 g2 n2; have b2 := Below.app (B := wr.heap.size) (by first | exact o1 | exact World.ownsRow.alloc o1 _) (by first | omega | (simp; omega)) g2; have z2 : wr.heap.size ≤ w2.heap.size := Nat.le_trans (by first | omega | (simp; omega)) b2.size)
                  | ((refine step_appS (by rfl) (.tmp 88) (.tmp 91) 23 (by rfl) wr.heap.size 3 (.int .i64 0) 8 Try.underlying23 infoI rfl (by decide) _ (0 + q + 1) ([] ++ ic (((fS L).drop 0).take q) ++ [.int .i64 s]) (by rfl) ⟨g3, q, none⟩ (k - q) _ (ic (((fS L).drop q).take (k - q))) (by rfl) ?_ hld ?_ ic_one (by omega) ?_ ?_); (focus exact o2); (focus (intro j u hu; exact HBO.out _ _ _ (by (repeat' (first | (with_reducible exact Below.refl _ _) | (with_reducible assumption) | (with_reducible refine Below.drewN ?_ _) | (with_reducible refine Below.alloc ?_ ?_ _) | (with_reducible refine Below.drew ?_) | (with_reducible refine Below.setCell ?_ ?_ _) | (with_reducible refine Below.trans ?_ (Below.mono (by assumption) ?_)) | go_size | (with_reducible refine Nat.le_trans ?_ (Below.size (by assumption)))))) (HRD.out j u hu))); (focus (first | (simp; done) | omega | (simp; omega))); intro v3 w3 o3 g3' n3; have b3 := Below.app (B := wr.heap.size) o2 (by omega) g3'; have z3 : wr.heap.size ≤ w3.heap.size := Nat.le_trans z2 b3.size)))
              all_goals
                have hbw : Below wr.heap.size wr w3 := by (repeat' (first | (with_reducible exact Below.refl _ _) | (with_reducible assumption) | (with_reducible refine Below.drewN ?_ _) | (with_reducible refine Below.alloc ?_ ?_ _) | (with_reducible refine Below.drew ?_) | (with_reducible refine Below.setCell ?_ ?_ _) | (with_reducible refine Below.trans ?_ (Below.mono (by assumption) ?_)) | go_size | (with_reducible refine Nat.le_trans ?_ (Below.size (by assumption)))))
                have HO3 := Lib.hid o3
                have HBW := Lib.hid hbw
                obtain ⟨g6, cap6, rfl, hg6, hlt6⟩ := World.ownsRow.form o3 (by omega)
                clear o1 o2 o3 g1 g2 g3' b1 b2 b3 n1 n2 n3 hbw
                go_wp2_with fail
                go_meet
                have ho := HO3.out
                have he : 0 + q + 1 + (k - q) = k + 1 := by omega
                rw [he] at ho
                (try rw [he])
                have hx : [] ++ ic (((fS L).drop 0).take q) ++ [.int .i64 s] ++ ic (((fS L).drop q).take (k - q)) = ic ((fS L).take q ++ s :: (fS L).drop q) := HLST.out
                rw [hx] at ho
                exact ⟨g6, cap6, rfl, ho, HBW.out⟩
            · obtain rfl : q = k := by omega
              have HLST := Lib.hid (show [] ++ ic (((fS L).drop 0).take q) ++ [.int .i64 s] ++ [] = ic ((fS L).take q ++ s :: (fS L).drop q) by rw [List.drop_eq_nil_of_le (i := q) (by have := HXL.out; omega), List.drop_zero]; simp [ic])
              by_cases hck : c3 = q
              · obtain rfl : q = c3 := hck.symm
                go_region_held3 (fun w' => True ∧ Below wr.heap.size wr w')
                  ((exact ⟨trivial, by (repeat' (first | (with_reducible exact Below.refl _ _) | (with_reducible assumption) | (with_reducible refine Below.drewN ?_ _) | (with_reducible refine Below.alloc ?_ ?_ _) | (with_reducible refine Below.drew ?_) | (with_reducible refine Below.setCell ?_ ?_ _) | (with_reducible refine Below.trans ?_ (Below.mono (by assumption) ?_)) | go_size | (with_reducible refine Nat.le_trans ?_ (Below.size (by assumption)))))⟩))
                  ((first
                    | ((refine step_appS (by rfl) (.tmp 81) (.tmp 84) 23 (by rfl) wr.heap.size 3 (.int .i64 0) 8 Try.underlying23 infoI rfl (by decide) (.slice (some ⟨_, 0, none⟩) 0 0) 0 [] (by rfl) ⟨g3, 0, none⟩ q _ (ic (((fS L).drop 0).take q)) (by rfl) ?_ hlk ?_ ic_one (by omega) ?_ ?_); (focus (first | exact own0 (by simp) (by simp) | exact World.ownsRow.alloc (own0 (by simp) (by simp)) _)); (focus (intro j u hu; exact HBO.out _ _ _ (by (repeat' (first | (with_reducible exact Below.refl _ _) | (with_reducible assumption) | (with_reducible refine Below.drewN ?_ _) | (with_reducible refine Below.alloc ?_ ?_ _) | (with_reducible refine Below.drew ?_) | (with_reducible refine Below.setCell ?_ ?_ _) | (with_reducible refine Below.trans ?_ (Below.mono (by assumption) ?_)) | go_size | (with_reducible refine Nat.le_trans ?_ (Below.size (by assumption)))))) (HRK.out j u hu))); (focus (first | (simp; done) | omega | (simp; omega))); intro v1 w1 o1 g1 n1; have b1 := Below.app (B := wr.heap.size) (by first | exact (own0 (t := 3) (by simp) (by simp)) | exact World.ownsRow.alloc (own0 (t := 3) (by simp) (by simp)) _) (by first | (simp; done) | (simp; omega)) g1; have z1 : wr.heap.size ≤ w1.heap.size := Nat.le_trans (by first | (simp; done) | (simp; omega)) b1.size)
                    | ((refine step_appS (by rfl) (.tmp 85) (.tmp 87) 23 (by rfl) wr.heap.size 3 (.int .i64 0) 8 Try.underlying23 infoI rfl (by decide) _ (0 + q) ([] ++ ic (((fS L).drop 0).take q)) (by rfl) ⟨_, 0, none⟩ 1 _ [.int .i64 s] (by rfl) ?_ rfl ?_ (one_one _) (by omega) ?_ ?_); (focus (first | exact o1 | exact World.ownsRow.alloc o1 _)); (focus (first | exact cell_one_new _ _ _ | (refine news_one ((g1.cell_far _ ?_ ?_).trans ?_) <;> first | (exact cell_xy (by simp)) | (simp [Value.ownBlock]; done) | (simp [go_sem]; done)))); (focus (first | (simp; done) | omega | (simp; omega))); intro v2 w2 o2 g2 n2; have b2 := Below.app (B := wr.heap.size) (by first | exact o1 | exact World.ownsRow.alloc o1 _) (by first | omega | (simp; omega)) g2; have z2 : wr.heap.size ≤ w2.heap.size := Nat.le_trans (by first | omega | (simp; omega)) b2.size)
                    | ((refine step_appS (by rfl) (.tmp 88) (.tmp 91) 23 (by rfl) wr.heap.size 3 (.int .i64 0) 8 Try.underlying23 infoI rfl (by decide) _ (0 + q + 1) ([] ++ ic (((fS L).drop 0).take q) ++ [.int .i64 s]) (by rfl) _ 0 _ [] (by rfl) ?_ rfl ?_ (fun u hu => by cases hu) (by omega) ?_ ?_); (focus exact o2); (focus (intro j u hu; simp at hu)); (focus (first | (simp; done) | omega | (simp; omega))); intro v3 w3 o3 g3' n3; have b3 := Below.app (B := wr.heap.size) o2 (by omega) g3'; have z3 : wr.heap.size ≤ w3.heap.size := Nat.le_trans z2 b3.size)))
                all_goals
                  have hbw : Below wr.heap.size wr w3 := by (repeat' (first | (with_reducible exact Below.refl _ _) | (with_reducible assumption) | (with_reducible refine Below.drewN ?_ _) | (with_reducible refine Below.alloc ?_ ?_ _) | (with_reducible refine Below.drew ?_) | (with_reducible refine Below.setCell ?_ ?_ _) | (with_reducible refine Below.trans ?_ (Below.mono (by assumption) ?_)) | go_size | (with_reducible refine Nat.le_trans ?_ (Below.size (by assumption)))))
                  have HO3 := Lib.hid o3
                  have HBW := Lib.hid hbw
                  obtain ⟨g6, cap6, rfl, hg6, hlt6⟩ := World.ownsRow.form o3 (by omega)
                  clear o1 o2 o3 g1 g2 g3' b1 b2 b3 n1 n2 n3 hbw
                  go_wp2_with fail
                  go_meet
                  have ho := HO3.out
                  have he : 0 + q + 1 + 0 = q + 1 := by omega
                  rw [he] at ho
                  (try rw [he])
                  have hx : [] ++ ic (((fS L).drop 0).take q) ++ [.int .i64 s] ++ [] = ic ((fS L).take q ++ s :: (fS L).drop q) := HLST.out
                  rw [hx] at ho
                  exact ⟨g6, cap6, rfl, ho, HBW.out⟩
              · have q7 : ¬ q = c3 := fun e => hck e.symm
                go_region_held3 (fun w' => True ∧ Below wr.heap.size wr w')
                  ((exact ⟨trivial, by (repeat' (first | (with_reducible exact Below.refl _ _) | (with_reducible assumption) | (with_reducible refine Below.drewN ?_ _) | (with_reducible refine Below.alloc ?_ ?_ _) | (with_reducible refine Below.drew ?_) | (with_reducible refine Below.setCell ?_ ?_ _) | (with_reducible refine Below.trans ?_ (Below.mono (by assumption) ?_)) | go_size | (with_reducible refine Nat.le_trans ?_ (Below.size (by assumption)))))⟩))
                  ((first
                    | ((refine step_appS (by rfl) (.tmp 81) (.tmp 84) 23 (by rfl) wr.heap.size 3 (.int .i64 0) 8 Try.underlying23 infoI rfl (by decide) (.slice (some ⟨_, 0, none⟩) 0 0) 0 [] (by rfl) ⟨g3, 0, none⟩ q _ (ic (((fS L).drop 0).take q)) (by rfl) ?_ hlk ?_ ic_one (by omega) ?_ ?_); (focus (first | exact own0 (by simp) (by simp) | exact World.ownsRow.alloc (own0 (by simp) (by simp)) _)); (focus (intro j u hu; exact HBO.out _ _ _ (by (repeat' (first | (with_reducible exact Below.refl _ _) | (with_reducible assumption) | (with_reducible refine Below.drewN ?_ _) | (with_reducible refine Below.alloc ?_ ?_ _) | (with_reducible refine Below.drew ?_) | (with_reducible refine Below.setCell ?_ ?_ _) | (with_reducible refine Below.trans ?_ (Below.mono (by assumption) ?_)) | go_size | (with_reducible refine Nat.le_trans ?_ (Below.size (by assumption)))))) (HRK.out j u hu))); (focus (first | (simp; done) | omega | (simp; omega))); intro v1 w1 o1 g1 n1; have b1 := Below.app (B := wr.heap.size) (by first | exact (own0 (t := 3) (by simp) (by simp)) | exact World.ownsRow.alloc (own0 (t := 3) (by simp) (by simp)) _) (by first | (simp; done) | (simp; omega)) g1; have z1 : wr.heap.size ≤ w1.heap.size := Nat.le_trans (by first | (simp; done) | (simp; omega)) b1.size)
                    | ((refine step_appS (by rfl) (.tmp 85) (.tmp 87) 23 (by rfl) wr.heap.size 3 (.int .i64 0) 8 Try.underlying23 infoI rfl (by decide) _ (0 + q) ([] ++ ic (((fS L).drop 0).take q)) (by rfl) ⟨_, 0, none⟩ 1 _ [.int .i64 s] (by rfl) ?_ rfl ?_ (one_one _) (by omega) ?_ ?_); (focus (first | exact o1 | exact World.ownsRow.alloc o1 _)); (focus (first | exact cell_one_new _ _ _ | (refine news_one ((g1.cell_far _ ?_ ?_).trans ?_) <;> first | (exact cell_xy (by simp)) | (simp [Value.ownBlock]; done) | (simp [go_sem]; done)))); (focus (first | (simp; done) | omega | (simp; omega))); intro v2 w2 o2 g2 n2; have b2 := Below.app (B := wr.heap.size) (by first | exact o1 | exact World.ownsRow.alloc o1 _) (by first | omega | (simp; omega)) g2; have z2 : wr.heap.size ≤ w2.heap.size := Nat.le_trans (by first | omega | (simp; omega)) b2.size)
                    | ((refine step_appS (by rfl) (.tmp 88) (.tmp 91) 23 (by rfl) wr.heap.size 3 (.int .i64 0) 8 Try.underlying23 infoI rfl (by decide) _ (0 + q + 1) ([] ++ ic (((fS L).drop 0).take q) ++ [.int .i64 s]) (by rfl) _ 0 _ [] (by rfl) ?_ rfl ?_ (fun u hu => by cases hu) (by omega) ?_ ?_); (focus exact o2); (focus (intro j u hu; simp at hu)); (focus (first | (simp; done) | omega | (simp; omega))); intro v3 w3 o3 g3' n3; have b3 := Below.app (B := wr.heap.size) o2 (by omega) g3'; have z3 : wr.heap.size ≤ w3.heap.size := Nat.le_trans z2 b3.size)))
                all_goals
                  have hbw : Below wr.heap.size wr w3 := by (repeat' (first | (with_reducible exact Below.refl _ _) | (with_reducible assumption) | (with_reducible refine Below.drewN ?_ _) | (with_reducible refine Below.alloc ?_ ?_ _) | (with_reducible refine Below.drew ?_) | (with_reducible refine Below.setCell ?_ ?_ _) | (with_reducible refine Below.trans ?_ (Below.mono (by assumption) ?_)) | go_size | (with_reducible refine Nat.le_trans ?_ (Below.size (by assumption)))))
                  have HO3 := Lib.hid o3
                  have HBW := Lib.hid hbw
                  obtain ⟨g6, cap6, rfl, hg6, hlt6⟩ := World.ownsRow.form o3 (by omega)
                  clear o1 o2 o3 g1 g2 g3' b1 b2 b3 n1 n2 n3 hbw
                  go_wp2_with fail
                  go_meet
                  have ho := HO3.out
                  have he : 0 + q + 1 + 0 = q + 1 := by omega
                  rw [he] at ho
                  (try rw [he])
                  have hx : [] ++ ic (((fS L).drop 0).take q) ++ [.int .i64 s] ++ [] = ic ((fS L).take q ++ s :: (fS L).drop q) := HLST.out
                  rw [hx] at ho
                  exact ⟨g6, cap6, rfl, ho, HBW.out⟩
          case rest =>
            obtain ⟨g6, cap6, rfl, ho, hb⟩ := hcut
            have O6 := Lib.hid ho
            have B6 := Lib.hid hb
            have HRW4 := Lib.hid (H4.out.row.below hb)
            have zb := hb.size
            clear ho hb HRW3
            obtain ⟨wp', hwp⟩ : ∃ wo : World, wc = wo := ⟨_, rfl⟩
            rw [hwp] at O6 B6 HRW4 zb ⊢
            clear hwp
            go_upto_region 15 with fail
            go_cut [16] (fun s16 wx => ∃ g6 cap6, s16 = .slice (some ⟨g6, 0, none⟩) (k + 1) cap6 ∧ wx.ownsRow wp'.heap.size 3 1 (.slice (some ⟨g6, 0, none⟩) (k + 1) cap6) (k + 1) (ic ((sS L).take q ++ 1 :: (sS L).drop q)) ∧ Below wp'.heap.size wp' wx)
            case first =>
              have HXL := HXL4
              have HROW := HRW4
              have HBO := Lib.hid (show ∀ (W : World) (p : Addr) (v : Value), Below wp'.heap.size wp' W → wp'.cell? p = some v → W.cell? p = some v from fun _ _ _ hb h => (hb.cell (World.block_lt_of_cell? wp' _ h)).trans h)
              have hrowk := HROW.out.news 0 q (by have := HXL.out; omega)
              have hrowd := HROW.out.news q (k - q) (by have := HXL.out; omega)
              rw [Nat.zero_add] at hrowk hrowd
              have HRK := Lib.hid hrowk
              have HRD := Lib.hid hrowd
              have hlk : (ic (((sS L).drop 0).take q)).length = q := by rw [ic_length, List.length_take, List.length_drop]; have := HXL.out; omega
              have hld : (ic (((sS L).drop q).take (k - q))).length = k - q := by rw [ic_length, List.length_take, List.length_drop]; have := HXL.out; omega
              clear hrowk hrowd HROW
              by_cases hkl : q < k
              · have q2 : (q : Int) ≤ (c4 : Int) := by omega
                have q3 : (q : Int) ≤ (k : Int) := by omega
                have q4 : ¬ c4 = q := by omega
                have q5 : (0 : Int) ≤ (q : Int) := by omega
                have q6 : (k : Int) ≤ (c4 : Int) := by omega
                have HLST := Lib.hid (show [] ++ ic (((sS L).drop 0).take q) ++ [.int .i64 1] ++ ic (((sS L).drop q).take (k - q)) = ic ((sS L).take q ++ 1 :: (sS L).drop q) by rw [List.take_of_length_le (l := (sS L).drop q) (by rw [List.length_drop]; have := HXL.out; omega), List.drop_zero]; simp [ic])
                go_region_held3 (fun w' => True ∧ Below wp'.heap.size wp' w')
                  ((exact ⟨trivial, by (repeat' (first | (with_reducible exact Below.refl _ _) | (with_reducible assumption) | (with_reducible refine Below.drewN ?_ _) | (with_reducible refine Below.alloc ?_ ?_ _) | (with_reducible refine Below.drew ?_) | (with_reducible refine Below.setCell ?_ ?_ _) | (with_reducible refine Below.trans ?_ (Below.mono (by assumption) ?_)) | go_size | (with_reducible refine Nat.le_trans ?_ (Below.size (by assumption)))))⟩))
                  ((first
                    | ((refine step_appS (by rfl) (.tmp 93) (.tmp 96) 23 (by rfl) wp'.heap.size 3 (.int .i64 0) 8 Try.underlying23 infoI rfl (by decide) (.slice (some ⟨_, 0, none⟩) 0 0) 0 [] (by rfl) ⟨g4, 0, none⟩ q _ (ic (((sS L).drop 0).take q)) (by rfl) ?_ hlk ?_ ic_one (by omega) ?_ ?_); (focus (first | exact own0 (by simp) (by simp) | exact World.ownsRow.alloc (own0 (by simp) (by simp)) _)); (focus (intro j u hu; exact HBO.out _ _ _ (by (repeat' (first | (with_reducible exact Below.refl _ _) | (with_reducible assumption) | (with_reducible refine Below.drewN ?_ _) | (with_reducible refine Below.alloc ?_ ?_ _) | (with_reducible refine Below.drew ?_) | (with_reducible refine Below.setCell ?_ ?_ _) | (with_reducible refine Below.trans ?_ (Below.mono (by assumption) ?_)) | go_size | (with_reducible refine Nat.le_trans ?_ (Below.size (by assumption)))))) (HRK.out j u hu))); (focus (first | (simp; done) | omega | (simp; omega))); intro v1 w1 o1 g1 n1; have b1 := Below.app (B := wp'.heap.size) (by first | exact (own0 (t := 3) (by simp) (by simp)) | exact World.ownsRow.alloc (own0 (t := 3) (by simp) (by simp)) _) (by first | (simp; done) | (simp; omega)) g1; have z1 : wp'.heap.size ≤ w1.heap.size := Nat.le_trans (by first | (simp; done) | (simp; omega)) b1.size)
                    | ((refine step_appS (by rfl) (.tmp 97) (.tmp 98) 23 (by rfl) wp'.heap.size 3 (.int .i64 0) 8 Try.underlying23 infoI rfl (by decide) _ (0 + q) ([] ++ ic (((sS L).drop 0).take q)) (by rfl) ⟨_, 0, none⟩ 1 _ [.int .i64 1] (by rfl) ?_ rfl ?_ (one_one _) (by omega) ?_ ?_); (focus (first | exact o1 | exact World.ownsRow.alloc o1 _)); (focus (first | exact cell_one_new _ _ _ | (refine news_one ((g1.cell_far _ ?_ ?_).trans ?_) <;> first | (exact cell_xy (by simp)) | (simp [Value.ownBlock]; done) | (simp [go_sem]; done)))); (focus (first | (simp; done) | omega | (simp; omega))); intro v2 w2 o2 g2 n2; have b2 := Below.app (B := wp'.heap.size) (by first | exact o1 | exact World.ownsRow.alloc o1 _) (by first | omega | (simp; omega)) g2; have z2 : wp'.heap.size ≤ w2.heap.size := Nat.le_trans (by first | omega | (simp; omega)) b2.size)
                    | ((refine step_appS (by rfl) (.tmp 99) (.tmp 102) 23 (by rfl) wp'.heap.size 3 (.int .i64 0) 8 Try.underlying23 infoI rfl (by decide) _ (0 + q + 1) ([] ++ ic (((sS L).drop 0).take q) ++ [.int .i64 1]) (by rfl) ⟨g4, q, none⟩ (k - q) _ (ic (((sS L).drop q).take (k - q))) (by rfl) ?_ hld ?_ ic_one (by omega) ?_ ?_); (focus exact o2); (focus (intro j u hu; exact HBO.out _ _ _ (by (repeat' (first | (with_reducible exact Below.refl _ _) | (with_reducible assumption) | (with_reducible refine Below.drewN ?_ _) | (with_reducible refine Below.alloc ?_ ?_ _) | (with_reducible refine Below.drew ?_) | (with_reducible refine Below.setCell ?_ ?_ _) | (with_reducible refine Below.trans ?_ (Below.mono (by assumption) ?_)) | go_size | (with_reducible refine Nat.le_trans ?_ (Below.size (by assumption)))))) (HRD.out j u hu))); (focus (first | (simp; done) | omega | (simp; omega))); intro v3 w3 o3 g3' n3; have b3 := Below.app (B := wp'.heap.size) o2 (by omega) g3'; have z3 : wp'.heap.size ≤ w3.heap.size := Nat.le_trans z2 b3.size)))
                all_goals
                  have hbw : Below wp'.heap.size wp' w3 := by (repeat' (first | (with_reducible exact Below.refl _ _) | (with_reducible assumption) | (with_reducible refine Below.drewN ?_ _) | (with_reducible refine Below.alloc ?_ ?_ _) | (with_reducible refine Below.drew ?_) | (with_reducible refine Below.setCell ?_ ?_ _) | (with_reducible refine Below.trans ?_ (Below.mono (by assumption) ?_)) | go_size | (with_reducible refine Nat.le_trans ?_ (Below.size (by assumption)))))
                  have HO3 := Lib.hid o3
                  have HBW := Lib.hid hbw
                  obtain ⟨g6, cap6, rfl, hg6, hlt6⟩ := World.ownsRow.form o3 (by omega)
                  clear o1 o2 o3 g1 g2 g3' b1 b2 b3 n1 n2 n3 hbw
                  go_wp2_with fail
                  go_meet
                  have ho := HO3.out
                  have he : 0 + q + 1 + (k - q) = k + 1 := by omega
                  rw [he] at ho
                  (try rw [he])
                  have hx : [] ++ ic (((sS L).drop 0).take q) ++ [.int .i64 1] ++ ic (((sS L).drop q).take (k - q)) = ic ((sS L).take q ++ 1 :: (sS L).drop q) := HLST.out
                  rw [hx] at ho
                  exact ⟨g6, cap6, rfl, ho, HBW.out⟩
              · obtain rfl : q = k := by omega
                have HLST := Lib.hid (show [] ++ ic (((sS L).drop 0).take q) ++ [.int .i64 1] ++ [] = ic ((sS L).take q ++ 1 :: (sS L).drop q) by rw [List.drop_eq_nil_of_le (i := q) (by have := HXL.out; omega), List.drop_zero]; simp [ic])
                by_cases hck : c4 = q
                · obtain rfl : q = c4 := hck.symm
                  go_region_held3 (fun w' => True ∧ Below wp'.heap.size wp' w')
                    ((exact ⟨trivial, by (repeat' (first | (with_reducible exact Below.refl _ _) | (with_reducible assumption) | (with_reducible refine Below.drewN ?_ _) | (with_reducible refine Below.alloc ?_ ?_ _) | (with_reducible refine Below.drew ?_) | (with_reducible refine Below.setCell ?_ ?_ _) | (with_reducible refine Below.trans ?_ (Below.mono (by assumption) ?_)) | go_size | (with_reducible refine Nat.le_trans ?_ (Below.size (by assumption)))))⟩))
                    ((first
                      | ((refine step_appS (by rfl) (.tmp 93) (.tmp 96) 23 (by rfl) wp'.heap.size 3 (.int .i64 0) 8 Try.underlying23 infoI rfl (by decide) (.slice (some ⟨_, 0, none⟩) 0 0) 0 [] (by rfl) ⟨g4, 0, none⟩ q _ (ic (((sS L).drop 0).take q)) (by rfl) ?_ hlk ?_ ic_one (by omega) ?_ ?_); (focus (first | exact own0 (by simp) (by simp) | exact World.ownsRow.alloc (own0 (by simp) (by simp)) _)); (focus (intro j u hu; exact HBO.out _ _ _ (by (repeat' (first | (with_reducible exact Below.refl _ _) | (with_reducible assumption) | (with_reducible refine Below.drewN ?_ _) | (with_reducible refine Below.alloc ?_ ?_ _) | (with_reducible refine Below.drew ?_) | (with_reducible refine Below.setCell ?_ ?_ _) | (with_reducible refine Below.trans ?_ (Below.mono (by assumption) ?_)) | go_size | (with_reducible refine Nat.le_trans ?_ (Below.size (by assumption)))))) (HRK.out j u hu))); (focus (first | (simp; done) | omega | (simp; omega))); intro v1 w1 o1 g1 n1; have b1 := Below.app (B := wp'.heap.size) (by first | exact (own0 (t := 3) (by simp) (by simp)) | exact World.ownsRow.alloc (own0 (t := 3) (by simp) (by simp)) _) (by first | (simp; done) | (simp; omega)) g1; have z1 : wp'.heap.size ≤ w1.heap.size := Nat.le_trans (by first | (simp; done) | (simp; omega)) b1.size)
                      | ((refine step_appS (by rfl) (.tmp 97) (.tmp 98) 23 (by rfl) wp'.heap.size 3 (.int .i64 0) 8 Try.underlying23 infoI rfl (by decide) _ (0 + q) ([] ++ ic (((sS L).drop 0).take q)) (by rfl) ⟨_, 0, none⟩ 1 _ [.int .i64 1] (by rfl) ?_ rfl ?_ (one_one _) (by omega) ?_ ?_); (focus (first | exact o1 | exact World.ownsRow.alloc o1 _)); (focus (first | exact cell_one_new _ _ _ | (refine news_one ((g1.cell_far _ ?_ ?_).trans ?_) <;> first | (exact cell_xy (by simp)) | (simp [Value.ownBlock]; done) | (simp [go_sem]; done)))); (focus (first | (simp; done) | omega | (simp; omega))); intro v2 w2 o2 g2 n2; have b2 := Below.app (B := wp'.heap.size) (by first | exact o1 | exact World.ownsRow.alloc o1 _) (by first | omega | (simp; omega)) g2; have z2 : wp'.heap.size ≤ w2.heap.size := Nat.le_trans (by first | omega | (simp; omega)) b2.size)
                      | ((refine step_appS (by rfl) (.tmp 99) (.tmp 102) 23 (by rfl) wp'.heap.size 3 (.int .i64 0) 8 Try.underlying23 infoI rfl (by decide) _ (0 + q + 1) ([] ++ ic (((sS L).drop 0).take q) ++ [.int .i64 1]) (by rfl) _ 0 _ [] (by rfl) ?_ rfl ?_ (fun u hu => by cases hu) (by omega) ?_ ?_); (focus exact o2); (focus (intro j u hu; simp at hu)); (focus (first | (simp; done) | omega | (simp; omega))); intro v3 w3 o3 g3' n3; have b3 := Below.app (B := wp'.heap.size) o2 (by omega) g3'; have z3 : wp'.heap.size ≤ w3.heap.size := Nat.le_trans z2 b3.size)))
                  all_goals
                    have hbw : Below wp'.heap.size wp' w3 := by (repeat' (first | (with_reducible exact Below.refl _ _) | (with_reducible assumption) | (with_reducible refine Below.drewN ?_ _) | (with_reducible refine Below.alloc ?_ ?_ _) | (with_reducible refine Below.drew ?_) | (with_reducible refine Below.setCell ?_ ?_ _) | (with_reducible refine Below.trans ?_ (Below.mono (by assumption) ?_)) | go_size | (with_reducible refine Nat.le_trans ?_ (Below.size (by assumption)))))
                    have HO3 := Lib.hid o3
                    have HBW := Lib.hid hbw
                    obtain ⟨g6, cap6, rfl, hg6, hlt6⟩ := World.ownsRow.form o3 (by omega)
                    clear o1 o2 o3 g1 g2 g3' b1 b2 b3 n1 n2 n3 hbw
                    go_wp2_with fail
                    go_meet
                    have ho := HO3.out
                    have he : 0 + q + 1 + 0 = q + 1 := by omega
                    rw [he] at ho
                    (try rw [he])
                    have hx : [] ++ ic (((sS L).drop 0).take q) ++ [.int .i64 1] ++ [] = ic ((sS L).take q ++ 1 :: (sS L).drop q) := HLST.out
                    rw [hx] at ho
                    exact ⟨g6, cap6, rfl, ho, HBW.out⟩
                · have q7 : ¬ q = c4 := fun e => hck e.symm
                  go_region_held3 (fun w' => True ∧ Below wp'.heap.size wp' w')
                    ((exact ⟨trivial, by (repeat' (first | (with_reducible exact Below.refl _ _) | (with_reducible assumption) | (with_reducible refine Below.drewN ?_ _) | (with_reducible refine Below.alloc ?_ ?_ _) | (with_reducible refine Below.drew ?_) | (with_reducible refine Below.setCell ?_ ?_ _) | (with_reducible refine Below.trans ?_ (Below.mono (by assumption) ?_)) | go_size | (with_reducible refine Nat.le_trans ?_ (Below.size (by assumption)))))⟩))
                    ((first
                      | ((refine step_appS (by rfl) (.tmp 93) (.tmp 96) 23 (by rfl) wp'.heap.size 3 (.int .i64 0) 8 Try.underlying23 infoI rfl (by decide) (.slice (some ⟨_, 0, none⟩) 0 0) 0 [] (by rfl) ⟨g4, 0, none⟩ q _ (ic (((sS L).drop 0).take q)) (by rfl) ?_ hlk ?_ ic_one (by omega) ?_ ?_); (focus (first | exact own0 (by simp) (by simp) | exact World.ownsRow.alloc (own0 (by simp) (by simp)) _)); (focus (intro j u hu; exact HBO.out _ _ _ (by (repeat' (first | (with_reducible exact Below.refl _ _) | (with_reducible assumption) | (with_reducible refine Below.drewN ?_ _) | (with_reducible refine Below.alloc ?_ ?_ _) | (with_reducible refine Below.drew ?_) | (with_reducible refine Below.setCell ?_ ?_ _) | (with_reducible refine Below.trans ?_ (Below.mono (by assumption) ?_)) | go_size | (with_reducible refine Nat.le_trans ?_ (Below.size (by assumption)))))) (HRK.out j u hu))); (focus (first | (simp; done) | omega | (simp; omega))); intro v1 w1 o1 g1 n1; have b1 := Below.app (B := wp'.heap.size) (by first | exact (own0 (t := 3) (by simp) (by simp)) | exact World.ownsRow.alloc (own0 (t := 3) (by simp) (by simp)) _) (by first | (simp; done) | (simp; omega)) g1; have z1 : wp'.heap.size ≤ w1.heap.size := Nat.le_trans (by first | (simp; done) | (simp; omega)) b1.size)
                      | ((refine step_appS (by rfl) (.tmp 97) (.tmp 98) 23 (by rfl) wp'.heap.size 3 (.int .i64 0) 8 Try.underlying23 infoI rfl (by decide) _ (0 + q) ([] ++ ic (((sS L).drop 0).take q)) (by rfl) ⟨_, 0, none⟩ 1 _ [.int .i64 1] (by rfl) ?_ rfl ?_ (one_one _) (by omega) ?_ ?_); (focus (first | exact o1 | exact World.ownsRow.alloc o1 _)); (focus (first | exact cell_one_new _ _ _ | (refine news_one ((g1.cell_far _ ?_ ?_).trans ?_) <;> first | (exact cell_xy (by simp)) | (simp [Value.ownBlock]; done) | (simp [go_sem]; done)))); (focus (first | (simp; done) | omega | (simp; omega))); intro v2 w2 o2 g2 n2; have b2 := Below.app (B := wp'.heap.size) (by first | exact o1 | exact World.ownsRow.alloc o1 _) (by first | omega | (simp; omega)) g2; have z2 : wp'.heap.size ≤ w2.heap.size := Nat.le_trans (by first | omega | (simp; omega)) b2.size)
                      | ((refine step_appS (by rfl) (.tmp 99) (.tmp 102) 23 (by rfl) wp'.heap.size 3 (.int .i64 0) 8 Try.underlying23 infoI rfl (by decide) _ (0 + q + 1) ([] ++ ic (((sS L).drop 0).take q) ++ [.int .i64 1]) (by rfl) _ 0 _ [] (by rfl) ?_ rfl ?_ (fun u hu => by cases hu) (by omega) ?_ ?_); (focus exact o2); (focus (intro j u hu; simp at hu)); (focus (first | (simp; done) | omega | (simp; omega))); intro v3 w3 o3 g3' n3; have b3 := Below.app (B := wp'.heap.size) o2 (by omega) g3'; have z3 : wp'.heap.size ≤ w3.heap.size := Nat.le_trans z2 b3.size)))
                  all_goals
                    have hbw : Below wp'.heap.size wp' w3 := by (repeat' (first | (with_reducible exact Below.refl _ _) | (with_reducible assumption) | (with_reducible refine Below.drewN ?_ _) | (with_reducible refine Below.alloc ?_ ?_ _) | (with_reducible refine Below.drew ?_) | (with_reducible refine Below.setCell ?_ ?_ _) | (with_reducible refine Below.trans ?_ (Below.mono (by assumption) ?_)) | go_size | (with_reducible refine Nat.le_trans ?_ (Below.size (by assumption)))))
                    have HO3 := Lib.hid o3
                    have HBW := Lib.hid hbw
                    obtain ⟨g6, cap6, rfl, hg6, hlt6⟩ := World.ownsRow.form o3 (by omega)
                    clear o1 o2 o3 g1 g2 g3' b1 b2 b3 n1 n2 n3 hbw
                    go_wp2_with fail
                    go_meet
                    have ho := HO3.out
                    have he : 0 + q + 1 + 0 = q + 1 := by omega
                    rw [he] at ho
                    (try rw [he])
                    have hx : [] ++ ic (((sS L).drop 0).take q) ++ [.int .i64 1] ++ [] = ic ((sS L).take q ++ 1 :: (sS L).drop q) := HLST.out
                    rw [hx] at ho
                    exact ⟨g6, cap6, rfl, ho, HBW.out⟩
            case rest =>
              obtain ⟨g8, cap8, rfl, ho8, hb8⟩ := hcut
              have O8 := Lib.hid ho8
              have B8 := Lib.hid hb8
              clear ho8 hb8
              go_wp2_with fail
              go_ret2
              have e1 : fS (insP s L) = (fS L).take q ++ s :: (fS L).drop q := by rw [NEW.out]; simp [fS]
              have e2 : sS (insP s L) = (sS L).take q ++ 1 :: (sS L).drop q := by rw [NEW.out]; simp [sS]
              rw [e1, e2]
              exact ⟨g6, cap6, g8, cap8, k + 1, rfl, (DR.of_own (show OwnI _ _ _ _ _ from O6.out) hB).below B8.out, DR.of_own (show OwnI _ _ _ _ _ from O8.out) (Nat.le_trans hB zb), B6.out.trans (B8.out.mono zb)⟩
    · have NEW := Lib.hid (insP_new L q (by rw [HLL.out]; exact hq) HLO.out (fun h => absurd (HLL.out ▸ h) hqk))
      clear HLO
      have HXL3 := Lib.hid H3.out.len
      have HXL4 := Lib.hid H4.out.len
      have HRW3 := Lib.hid H3.out.row
      go_upto_region 14 with fail
      go_cut [15] (fun s15 wx => ∃ g6 cap6, s15 = .slice (some ⟨g6, 0, none⟩) (k + 1) cap6 ∧ wx.ownsRow wr.heap.size 3 1 (.slice (some ⟨g6, 0, none⟩) (k + 1) cap6) (k + 1) (ic ((fS L).take q ++ s :: (fS L).drop q)) ∧ Below wr.heap.size wr wx)
      case first =>
        have HXL := HXL3
        have HROW := HRW3
        have HBO := Lib.hid (show ∀ (W : World) (p : Addr) (v : Value), Below wr.heap.size wr W → wr.cell? p = some v → W.cell? p = some v from fun _ _ _ hb h => (hb.cell (World.block_lt_of_cell? wr _ h)).trans h)
        have hrowk := HROW.out.news 0 q (by have := HXL.out; omega)
        have hrowd := HROW.out.news q (k - q) (by have := HXL.out; omega)
        rw [Nat.zero_add] at hrowk hrowd
        have HRK := Lib.hid hrowk
        have HRD := Lib.hid hrowd
        have hlk : (ic (((fS L).drop 0).take q)).length = q := by rw [ic_length, List.length_take, List.length_drop]; have := HXL.out; omega
        have hld : (ic (((fS L).drop q).take (k - q))).length = k - q := by rw [ic_length, List.length_take, List.length_drop]; have := HXL.out; omega
        clear hrowk hrowd HROW
        by_cases hkl : q < k
        · have q2 : (q : Int) ≤ (c3 : Int) := by omega
          have q3 : (q : Int) ≤ (k : Int) := by omega
          have q4 : ¬ c3 = q := by omega
          have q5 : (0 : Int) ≤ (q : Int) := by omega
          have q6 : (k : Int) ≤ (c3 : Int) := by omega
          have HLST := Lib.hid (show [] ++ ic (((fS L).drop 0).take q) ++ [.int .i64 s] ++ ic (((fS L).drop q).take (k - q)) = ic ((fS L).take q ++ s :: (fS L).drop q) by rw [List.take_of_length_le (l := (fS L).drop q) (by rw [List.length_drop]; have := HXL.out; omega), List.drop_zero]; simp [ic])
          go_region_held3 (fun w' => True ∧ Below wr.heap.size wr w')
            ((exact ⟨trivial, by (repeat' (first | (with_reducible exact Below.refl _ _) | (with_reducible assumption) | (with_reducible refine Below.drewN ?_ _) | (with_reducible refine Below.alloc ?_ ?_ _) | (with_reducible refine Below.drew ?_) | (with_reducible refine Below.setCell ?_ ?_ _) | (with_reducible refine Below.trans ?_ (Below.mono (by assumption) ?_)) | go_size | (with_reducible refine Nat.le_trans ?_ (Below.size (by assumption)))))⟩))
            ((first
              | ((refine step_appS (by rfl) (.tmp 81) (.tmp 84) 23 (by rfl) wr.heap.size 3 (.int .i64 0) 8 Try.underlying23 infoI rfl (by decide) (.slice (some ⟨_, 0, none⟩) 0 0) 0 [] (by rfl) ⟨g3, 0, none⟩ q _ (ic (((fS L).drop 0).take q)) (by rfl) ?_ hlk ?_ ic_one (by omega) ?_ ?_); (focus (first | exact own0 (by simp) (by simp) | exact World.ownsRow.alloc (own0 (by simp) (by simp)) _)); (focus (intro j u hu; exact HBO.out _ _ _ (by (repeat' (first | (with_reducible exact Below.refl _ _) | (with_reducible assumption) | (with_reducible refine Below.drewN ?_ _) | (with_reducible refine Below.alloc ?_ ?_ _) | (with_reducible refine Below.drew ?_) | (with_reducible refine Below.setCell ?_ ?_ _) | (with_reducible refine Below.trans ?_ (Below.mono (by assumption) ?_)) | go_size | (with_reducible refine Nat.le_trans ?_ (Below.size (by assumption)))))) (HRK.out j u hu))); (focus (first | (simp; done) | omega | (simp; omega))); intro v1 w1 o1 g1 n1; have b1 := Below.app (B := wr.heap.size) (by first | exact (own0 (t := 3) (by simp) (by simp)) | exact World.ownsRow.alloc (own0 (t := 3) (by simp) (by simp)) _) (by first | (simp; done) | (simp; omega)) g1; have z1 : wr.heap.size ≤ w1.heap.size := Nat.le_trans (by first | (simp; done) | (simp; omega)) b1.size)
              | ((refine step_appS (by rfl) (.tmp 85) (.tmp 87) 23 (by rfl) wr.heap.size 3 (.int .i64 0) 8 Try.underlying23 infoI rfl (by decide) _ (0 + q) ([] ++ ic (((fS L).drop 0).take q)) (by rfl) ⟨_, 0, none⟩ 1 _ [.int .i64 s] (by rfl) ?_ rfl ?_ (one_one _) (by omega) ?_ ?_); (focus (first | exact o1 | exact World.ownsRow.alloc o1 _)); (focus (first | exact cell_one_new _ _ _ | (refine news_one ((g1.cell_far _ ?_ ?_).trans ?_) <;> first | (exact cell_xy (by simp)) | (simp [Value.ownBlock]; done) | (simp [go_sem]; done)))); (focus (first | (simp; done) | omega | (simp; omega))); intro v2 w2 o2 g2 n2; have b2 := Below.app (B := wr.heap.size) (by first | exact o1 | exact World.ownsRow.alloc o1 _) (by first | omega | (simp; omega)) g2; have z2 : wr.heap.size ≤ w2.heap.size := Nat.le_trans (by first | omega | (simp; omega)) b2.size)
              | ((refine step_appS (by rfl) (.tmp 88) (.tmp 91) 23 (by rfl) wr.heap.size 3 (.int .i64 0) 8 Try.underlying23 infoI rfl (by decide) _ (0 + q + 1) ([] ++ ic (((fS L).drop 0).take q) ++ [.int .i64 s]) (by rfl) ⟨g3, q, none⟩ (k - q) _ (ic (((fS L).drop q).take (k - q))) (by rfl) ?_ hld ?_ ic_one (by omega) ?_ ?_); (focus exact o2); (focus (intro j u hu; exact HBO.out _ _ _ (by (repeat' (first | (with_reducible exact Below.refl _ _) | (with_reducible assumption) | (with_reducible refine Below.drewN ?_ _) | (with_reducible refine Below.alloc ?_ ?_ _) | (with_reducible refine Below.drew ?_) | (with_reducible refine Below.setCell ?_ ?_ _) | (with_reducible refine Below.trans ?_ (Below.mono (by assumption) ?_)) | go_size | (with_reducible refine Nat.le_trans ?_ (Below.size (by assumption)))))) (HRD.out j u hu))); (focus (first | (simp; done) | omega | (simp; omega))); intro v3 w3 o3 g3' n3; have b3 := Below.app (B := wr.heap.size) o2 (by omega) g3'; have z3 : wr.heap.size ≤ w3.heap.size := Nat.le_trans z2 b3.size)))
          all_goals
            have hbw : Below wr.heap.size wr w3 := by (repeat' (first | (with_reducible exact Below.refl _ _) | (with_reducible assumption) | (with_reducible refine Below.drewN ?_ _) | (with_reducible refine Below.alloc ?_ ?_ _) | (with_reducible refine Below.drew ?_) | (with_reducible refine Below.setCell ?_ ?_ _) | (with_reducible refine Below.trans ?_ (Below.mono (by assumption) ?_)) | go_size | (with_reducible refine Nat.le_trans ?_ (Below.size (by assumption)))))
            have HO3 := Lib.hid o3
            have HBW := Lib.hid hbw
            obtain ⟨g6, cap6, rfl, hg6, hlt6⟩ := World.ownsRow.form o3 (by omega)
            clear o1 o2 o3 g1 g2 g3' b1 b2 b3 n1 n2 n3 hbw
            go_wp2_with fail
            go_meet
            have ho := HO3.out
            have he : 0 + q + 1 + (k - q) = k + 1 := by omega
            rw [he] at ho
            (try rw [he])
            have hx : [] ++ ic (((fS L).drop 0).take q) ++ [.int .i64 s] ++ ic (((fS L).drop q).take (k - q)) = ic ((fS L).take q ++ s :: (fS L).drop q) := HLST.out
            rw [hx] at ho
            exact ⟨g6, cap6, rfl, ho, HBW.out⟩
        · obtain rfl : q = k := by omega
          have HLST := Lib.hid (show [] ++ ic (((fS L).drop 0).take q) ++ [.int .i64 s] ++ [] = ic ((fS L).take q ++ s :: (fS L).drop q) by rw [List.drop_eq_nil_of_le (i := q) (by have := HXL.out; omega), List.drop_zero]; simp [ic])
          by_cases hck : c3 = q
          · obtain rfl : q = c3 := hck.symm
            go_region_held3 (fun w' => True ∧ Below wr.heap.size wr w')
              ((exact ⟨trivial, by (repeat' (first | (with_reducible exact Below.refl _ _) | (with_reducible assumption) | (with_reducible refine Below.drewN ?_ _) | (with_reducible refine Below.alloc ?_ ?_ _) | (with_reducible refine Below.drew ?_) | (with_reducible refine Below.setCell ?_ ?_ _) | (with_reducible refine Below.trans ?_ (Below.mono (by assumption) ?_)) | go_size | (with_reducible refine Nat.le_trans ?_ (Below.size (by assumption)))))⟩))
              ((first
                | ((refine step_appS (by rfl) (.tmp 81) (.tmp 84) 23 (by rfl) wr.heap.size 3 (.int .i64 0) 8 Try.underlying23 infoI rfl (by decide) (.slice (some ⟨_, 0, none⟩) 0 0) 0 [] (by rfl) ⟨g3, 0, none⟩ q _ (ic (((fS L).drop 0).take q)) (by rfl) ?_ hlk ?_ ic_one (by omega) ?_ ?_); (focus (first | exact own0 (by simp) (by simp) | exact World.ownsRow.alloc (own0 (by simp) (by simp)) _)); (focus (intro j u hu; exact HBO.out _ _ _ (by (repeat' (first | (with_reducible exact Below.refl _ _) | (with_reducible assumption) | (with_reducible refine Below.drewN ?_ _) | (with_reducible refine Below.alloc ?_ ?_ _) | (with_reducible refine Below.drew ?_) | (with_reducible refine Below.setCell ?_ ?_ _) | (with_reducible refine Below.trans ?_ (Below.mono (by assumption) ?_)) | go_size | (with_reducible refine Nat.le_trans ?_ (Below.size (by assumption)))))) (HRK.out j u hu))); (focus (first | (simp; done) | omega | (simp; omega))); intro v1 w1 o1 g1 n1; have b1 := Below.app (B := wr.heap.size) (by first | exact (own0 (t := 3) (by simp) (by simp)) | exact World.ownsRow.alloc (own0 (t := 3) (by simp) (by simp)) _) (by first | (simp; done) | (simp; omega)) g1; have z1 : wr.heap.size ≤ w1.heap.size := Nat.le_trans (by first | (simp; done) | (simp; omega)) b1.size)
                | ((refine step_appS (by rfl) (.tmp 85) (.tmp 87) 23 (by rfl) wr.heap.size 3 (.int .i64 0) 8 Try.underlying23 infoI rfl (by decide) _ (0 + q) ([] ++ ic (((fS L).drop 0).take q)) (by rfl) ⟨_, 0, none⟩ 1 _ [.int .i64 s] (by rfl) ?_ rfl ?_ (one_one _) (by omega) ?_ ?_); (focus (first | exact o1 | exact World.ownsRow.alloc o1 _)); (focus (first | exact cell_one_new _ _ _ | (refine news_one ((g1.cell_far _ ?_ ?_).trans ?_) <;> first | (exact cell_xy (by simp)) | (simp [Value.ownBlock]; done) | (simp [go_sem]; done)))); (focus (first | (simp; done) | omega | (simp; omega))); intro v2 w2 o2 g2 n2; have b2 := Below.app (B := wr.heap.size) (by first | exact o1 | exact World.ownsRow.alloc o1 _) (by first | omega | (simp; omega)) g2; have z2 : wr.heap.size ≤ w2.heap.size := Nat.le_trans (by first | omega | (simp; omega)) b2.size)
                | ((refine step_appS (by rfl) (.tmp 88) (.tmp 91) 23 (by rfl) wr.heap.size 3 (.int .i64 0) 8 Try.underlying23 infoI rfl (by decide) _ (0 + q + 1) ([] ++ ic (((fS L).drop 0).take q) ++ [.int .i64 s]) (by rfl) _ 0 _ [] (by rfl) ?_ rfl ?_ (fun u hu => by cases hu) (by omega) ?_ ?_); (focus exact o2); (focus (intro j u hu; simp at hu)); (focus (first | (simp; done) | omega | (simp; omega))); intro v3 w3 o3 g3' n3; have b3 := Below.app (B := wr.heap.size) o2 (by omega) g3'; have z3 : wr.heap.size ≤ w3.heap.size := Nat.le_trans z2 b3.size)))
            all_goals
              have hbw : Below wr.heap.size wr w3 := by (repeat' (first | (with_reducible exact Below.refl _ _) | (with_reducible assumption) | (with_reducible refine Below.drewN ?_ _) | (with_reducible refine Below.alloc ?_ ?_ _) | (with_reducible refine Below.drew ?_) | (with_reducible refine Below.setCell ?_ ?_ _) | (with_reducible refine Below.trans ?_ (Below.mono (by assumption) ?_)) | go_size | (with_reducible refine Nat.le_trans ?_ (Below.size (by assumption)))))
              have HO3 := Lib.hid o3
              have HBW := Lib.hid hbw
              obtain ⟨g6, cap6, rfl, hg6, hlt6⟩ := World.ownsRow.form o3 (by omega)
              clear o1 o2 o3 g1 g2 g3' b1 b2 b3 n1 n2 n3 hbw
              go_wp2_with fail
              go_meet
              have ho := HO3.out
              have he : 0 + q + 1 + 0 = q + 1 := by omega
              rw [he] at ho
              (try rw [he])
              have hx : [] ++ ic (((fS L).drop 0).take q) ++ [.int .i64 s] ++ [] = ic ((fS L).take q ++ s :: (fS L).drop q) := HLST.out
              rw [hx] at ho
              exact ⟨g6, cap6, rfl, ho, HBW.out⟩
          · have q7 : ¬ q = c3 := fun e => hck e.symm
            go_region_held3 (fun w' => True ∧ Below wr.heap.size wr w')
              ((exact ⟨trivial, by (repeat' (first | (with_reducible exact Below.refl _ _) | (with_reducible assumption) | (with_reducible refine Below.drewN ?_ _) | (with_reducible refine Below.alloc ?_ ?_ _) | (with_reducible refine Below.drew ?_) | (with_reducible refine Below.setCell ?_ ?_ _) | (with_reducible refine Below.trans ?_ (Below.mono (by assumption) ?_)) | go_size | (with_reducible refine Nat.le_trans ?_ (Below.size (by assumption)))))⟩))
              ((first
                | ((refine step_appS (by rfl) (.tmp 81) (.tmp 84) 23 (by rfl) wr.heap.size 3 (.int .i64 0) 8 Try.underlying23 infoI rfl (by decide) (.slice (some ⟨_, 0, none⟩) 0 0) 0 [] (by rfl) ⟨g3, 0, none⟩ q _ (ic (((fS L).drop 0).take q)) (by rfl) ?_ hlk ?_ ic_one (by omega) ?_ ?_); (focus (first | exact own0 (by simp) (by simp) | exact World.ownsRow.alloc (own0 (by simp) (by simp)) _)); (focus (intro j u hu; exact HBO.out _ _ _ (by (repeat' (first | (with_reducible exact Below.refl _ _) | (with_reducible assumption) | (with_reducible refine Below.drewN ?_ _) | (with_reducible refine Below.alloc ?_ ?_ _) | (with_reducible refine Below.drew ?_) | (with_reducible refine Below.setCell ?_ ?_ _) | (with_reducible refine Below.trans ?_ (Below.mono (by assumption) ?_)) | go_size | (with_reducible refine Nat.le_trans ?_ (Below.size (by assumption)))))) (HRK.out j u hu))); (focus (first | (simp; done) | omega | (simp; omega))); intro v1 w1 o1 g1 n1; have b1 := Below.app (B := wr.heap.size) (by first | exact (own0 (t := 3) (by simp) (by simp)) | exact World.ownsRow.alloc (own0 (t := 3) (by simp) (by simp)) _) (by first | (simp; done) | (simp; omega)) g1; have z1 : wr.heap.size ≤ w1.heap.size := Nat.le_trans (by first | (simp; done) | (simp; omega)) b1.size)
                | ((refine step_appS (by rfl) (.tmp 85) (.tmp 87) 23 (by rfl) wr.heap.size 3 (.int .i64 0) 8 Try.underlying23 infoI rfl (by decide) _ (0 + q) ([] ++ ic (((fS L).drop 0).take q)) (by rfl) ⟨_, 0, none⟩ 1 _ [.int .i64 s] (by rfl) ?_ rfl ?_ (one_one _) (by omega) ?_ ?_); (focus (first | exact o1 | exact World.ownsRow.alloc o1 _)); (focus (first | exact cell_one_new _ _ _ | (refine news_one ((g1.cell_far _ ?_ ?_).trans ?_) <;> first | (exact cell_xy (by simp)) | (simp [Value.ownBlock]; done) | (simp [go_sem]; done)))); (focus (first | (simp; done) | omega | (simp; omega))); intro v2 w2 o2 g2 n2; have b2 := Below.app (B := wr.heap.size) (by first | exact o1 | exact World.ownsRow.alloc o1 _) (by first | omega | (simp; omega)) g2; have z2 : wr.heap.size ≤ w2.heap.size := Nat.le_trans (by first | omega | (simp; omega)) b2.size)
                | ((refine step_appS (by rfl) (.tmp 88) (.tmp 91) 23 (by rfl) wr.heap.size 3 (.int .i64 0) 8 Try.underlying23 infoI rfl (by decide) _ (0 + q + 1) ([] ++ ic (((fS L).drop 0).take q) ++ [.int .i64 s]) (by rfl) _ 0 _ [] (by rfl) ?_ rfl ?_ (fun u hu => by cases hu) (by omega) ?_ ?_); (focus exact o2); (focus (intro j u hu; simp at hu)); (focus (first | (simp; done) | omega | (simp; omega))); intro v3 w3 o3 g3' n3; have b3 := Below.app (B := wr.heap.size) o2 (by omega) g3'; have z3 : wr.heap.size ≤ w3.heap.size := Nat.le_trans z2 b3.size)))
            all_goals
              have hbw : Below wr.heap.size wr w3 := by (repeat' (first | (with_reducible exact Below.refl _ _) | (with_reducible assumption) | (with_reducible refine Below.drewN ?_ _) | (with_reducible refine Below.alloc ?_ ?_ _) | (with_reducible refine Below.drew ?_) | (with_reducible refine Below.setCell ?_ ?_ _) | (with_reducible refine Below.trans ?_ (Below.mono (by assumption) ?_)) | go_size | (with_reducible refine Nat.le_trans ?_ (Below.size (by assumption)))))
              have HO3 := Lib.hid o3
              have HBW := Lib.hid hbw
              obtain ⟨g6, cap6, rfl, hg6, hlt6⟩ := World.ownsRow.form o3 (by omega)
              clear o1 o2 o3 g1 g2 g3' b1 b2 b3 n1 n2 n3 hbw
              go_wp2_with fail
              go_meet
              have ho := HO3.out
              have he : 0 + q + 1 + 0 = q + 1 := by omega
              rw [he] at ho
              (try rw [he])
              have hx : [] ++ ic (((fS L).drop 0).take q) ++ [.int .i64 s] ++ [] = ic ((fS L).take q ++ s :: (fS L).drop q) := HLST.out
              rw [hx] at ho
              exact ⟨g6, cap6, rfl, ho, HBW.out⟩
      case rest =>
        obtain ⟨g6, cap6, rfl, ho, hb⟩ := hcut
        have O6 := Lib.hid ho
        have B6 := Lib.hid hb
        have HRW4 := Lib.hid (H4.out.row.below hb)
        have zb := hb.size
        clear ho hb HRW3
        obtain ⟨wp', hwp⟩ : ∃ wo : World, wc = wo := ⟨_, rfl⟩
        rw [hwp] at O6 B6 HRW4 zb ⊢
        clear hwp
        go_upto_region 15 with fail
        go_cut [16] (fun s16 wx => ∃ g6 cap6, s16 = .slice (some ⟨g6, 0, none⟩) (k + 1) cap6 ∧ wx.ownsRow wp'.heap.size 3 1 (.slice (some ⟨g6, 0, none⟩) (k + 1) cap6) (k + 1) (ic ((sS L).take q ++ 1 :: (sS L).drop q)) ∧ Below wp'.heap.size wp' wx)
        case first =>
          have HXL := HXL4
          have HROW := HRW4
          have HBO := Lib.hid (show ∀ (W : World) (p : Addr) (v : Value), Below wp'.heap.size wp' W → wp'.cell? p = some v → W.cell? p = some v from fun _ _ _ hb h => (hb.cell (World.block_lt_of_cell? wp' _ h)).trans h)
          have hrowk := HROW.out.news 0 q (by have := HXL.out; omega)
          have hrowd := HROW.out.news q (k - q) (by have := HXL.out; omega)
          rw [Nat.zero_add] at hrowk hrowd
          have HRK := Lib.hid hrowk
          have HRD := Lib.hid hrowd
          have hlk : (ic (((sS L).drop 0).take q)).length = q := by rw [ic_length, List.length_take, List.length_drop]; have := HXL.out; omega
          have hld : (ic (((sS L).drop q).take (k - q))).length = k - q := by rw [ic_length, List.length_take, List.length_drop]; have := HXL.out; omega
          clear hrowk hrowd HROW
          by_cases hkl : q < k
          · have q2 : (q : Int) ≤ (c4 : Int) := by omega
            have q3 : (q : Int) ≤ (k : Int) := by omega
            have q4 : ¬ c4 = q := by omega
            have q5 : (0 : Int) ≤ (q : Int) := by omega
            have q6 : (k : Int) ≤ (c4 : Int) := by omega
            have HLST := Lib.hid (show [] ++ ic (((sS L).drop 0).take q) ++ [.int .i64 1] ++ ic (((sS L).drop q).take (k - q)) = ic ((sS L).take q ++ 1 :: (sS L).drop q) by rw [List.take_of_length_le (l := (sS L).drop q) (by rw [List.length_drop]; have := HXL.out; omega), List.drop_zero]; simp [ic])
            go_region_held3 (fun w' => True ∧ Below wp'.heap.size wp' w')
              ((exact ⟨trivial, by (repeat' (first | (with_reducible exact Below.refl _ _) | (with_reducible assumption) | (with_reducible refine Below.drewN ?_ _) | (with_reducible refine Below.alloc ?_ ?_ _) | (with_reducible refine Below.drew ?_) | (with_reducible refine Below.setCell ?_ ?_ _) | (with_reducible refine Below.trans ?_ (Below.mono (by assumption) ?_)) | go_size | (with_reducible refine Nat.le_trans ?_ (Below.size (by assumption)))))⟩))
              ((first
                | ((refine step_appS (by rfl) (.tmp 93) (.tmp 96) 23 (by rfl) wp'.heap.size 3 (.int .i64 0) 8 Try.underlying23 infoI rfl (by decide) (.slice (some ⟨_, 0, none⟩) 0 0) 0 [] (by rfl) ⟨g4, 0, none⟩ q _ (ic (((sS L).drop 0).take q)) (by rfl) ?_ hlk ?_ ic_one (by omega) ?_ ?_); (focus (first | exact own0 (by simp) (by simp) | exact World.ownsRow.alloc (own0 (by simp) (by simp)) _)); (focus (intro j u hu; exact HBO.out _ _ _ (by (repeat' (first | (with_reducible exact Below.refl _ _) | (with_reducible assumption) | (with_reducible refine Below.drewN ?_ _) | (with_reducible refine Below.alloc ?_ ?_ _) | (with_reducible refine Below.drew ?_) | (with_reducible refine Below.setCell ?_ ?_ _) | (with_reducible refine Below.trans ?_ (Below.mono (by assumption) ?_)) | go_size | (with_reducible refine Nat.le_trans ?_ (Below.size (by assumption)))))) (HRK.out j u hu))); (focus (first | (simp; done) | omega | (simp; omega))); intro v1 w1 o1 g1 n1; have b1 := Below.app (B := wp'.heap.size) (by first | exact (own0 (t := 3) (by simp) (by simp)) | exact World.ownsRow.alloc (own0 (t := 3) (by simp) (by simp)) _) (by first | (simp; done) | (simp; omega)) g1; have z1 : wp'.heap.size ≤ w1.heap.size := Nat.le_trans (by first | (simp; done) | (simp; omega)) b1.size)
                | ((refine step_appS (by rfl) (.tmp 97) (.tmp 98) 23 (by rfl) wp'.heap.size 3 (.int .i64 0) 8 Try.underlying23 infoI rfl (by decide) _ (0 + q) ([] ++ ic (((sS L).drop 0).take q)) (by rfl) ⟨_, 0, none⟩ 1 _ [.int .i64 1] (by rfl) ?_ rfl ?_ (one_one _) (by omega) ?_ ?_); (focus (first | exact o1 | exact World.ownsRow.alloc o1 _)); (focus (first | exact cell_one_new _ _ _ | (refine news_one ((g1.cell_far _ ?_ ?_).trans ?_) <;> first | (exact cell_xy (by simp)) | (simp [Value.ownBlock]; done) | (simp [go_sem]; done)))); (focus (first | (simp; done) | omega | (simp; omega))); intro v2 w2 o2 g2 n2; have b2 := Below.app (B := wp'.heap.size) (by first | exact o1 | exact World.ownsRow.alloc o1 _) (by first | omega | (simp; omega)) g2; have z2 : wp'.heap.size ≤ w2.heap.size := Nat.le_trans (by first | omega | (simp; omega)) b2.size)
                | ((refine step_appS (by rfl) (.tmp 99) (.tmp 102) 23 (by rfl) wp'.heap.size 3 (.int .i64 0) 8 Try.underlying23 infoI rfl (by decide) _ (0 + q + 1) ([] ++ ic (((sS L).drop 0).take q) ++ [.int .i64 1]) (by rfl) ⟨g4, q, none⟩ (k - q) _ (ic (((sS L).drop q).take (k - q))) (by rfl) ?_ hld ?_ ic_one (by omega) ?_ ?_); (focus exact o2); (focus (intro j u hu; exact HBO.out _ _ _ (by (repeat' (first | (with_reducible exact Below.refl _ _) | (with_reducible assumption) | (with_reducible refine Below.drewN ?_ _) | (with_reducible refine Below.alloc ?_ ?_ _) | (with_reducible refine Below.drew ?_) | (with_reducible refine Below.setCell ?_ ?_ _) | (with_reducible refine Below.trans ?_ (Below.mono (by assumption) ?_)) | go_size | (with_reducible refine Nat.le_trans ?_ (Below.size (by assumption)))))) (HRD.out j u hu))); (focus (first | (simp; done) | omega | (simp; omega))); intro v3 w3 o3 g3' n3; have b3 := Below.app (B := wp'.heap.size) o2 (by omega) g3'; have z3 : wp'.heap.size ≤ w3.heap.size := Nat.le_trans z2 b3.size)))
            all_goals
              have hbw : Below wp'.heap.size wp' w3 := by (repeat' (first | (with_reducible exact Below.refl _ _) | (with_reducible assumption) | (with_reducible refine Below.drewN ?_ _) | (with_reducible refine Below.alloc ?_ ?_ _) | (with_reducible refine Below.drew ?_) | (with_reducible refine Below.setCell ?_ ?_ _) | (with_reducible refine Below.trans ?_ (Below.mono (by assumption) ?_)) | go_size | (with_reducible refine Nat.le_trans ?_ (Below.size (by assumption)))))
              have HO3 := Lib.hid o3
              have HBW := Lib.hid hbw
              obtain ⟨g6, cap6, rfl, hg6, hlt6⟩ := World.ownsRow.form o3 (by omega)
              clear o1 o2 o3 g1 g2 g3' b1 b2 b3 n1 n2 n3 hbw
              go_wp2_with fail
              go_meet
              have ho := HO3.out
              have he : 0 + q + 1 + (k - q) = k + 1 := by omega
              rw [he] at ho
              (try rw [he])
              have hx : [] ++ ic (((sS L).drop 0).take q) ++ [.int .i64 1] ++ ic (((sS L).drop q).take (k - q)) = ic ((sS L).take q ++ 1 :: (sS L).drop q) := HLST.out
              rw [hx] at ho
              exact ⟨g6, cap6, rfl, ho, HBW.out⟩
          · obtain rfl : q = k := by omega
            have HLST := Lib.hid (show [] ++ ic (((sS L).drop 0).take q) ++ [.int .i64 1] ++ [] = ic ((sS L).take q ++ 1 :: (sS L).drop q) by rw [List.drop_eq_nil_of_le (i := q) (by have := HXL.out; omega), List.drop_zero]; simp [ic])
            by_cases hck : c4 = q
            · obtain rfl : q = c4 := hck.symm
              go_region_held3 (fun w' => True ∧ Below wp'.heap.size wp' w')
                ((exact ⟨trivial, by (repeat' (first | (with_reducible exact Below.refl _ _) | (with_reducible assumption) | (with_reducible refine Below.drewN ?_ _) | (with_reducible refine Below.alloc ?_ ?_ _) | (with_reducible refine Below.drew ?_) | (with_reducible refine Below.setCell ?_ ?_ _) | (with_reducible refine Below.trans ?_ (Below.mono (by assumption) ?_)) | go_size | (with_reducible refine Nat.le_trans ?_ (Below.size (by assumption)))))⟩))
                ((first
                  | ((refine step_appS (by rfl) (.tmp 93) (.tmp 96) 23 (by rfl) wp'.heap.size 3 (.int .i64 0) 8 Try.underlying23 infoI rfl (by decide) (.slice (some ⟨_, 0, none⟩) 0 0) 0 [] (by rfl) ⟨g4, 0, none⟩ q _ (ic (((sS L).drop 0).take q)) (by rfl) ?_ hlk ?_ ic_one (by omega) ?_ ?_); (focus (first | exact own0 (by simp) (by simp) | exact World.ownsRow.alloc (own0 (by simp) (by simp)) _)); (focus (intro j u hu; exact HBO.out _ _ _ (by (repeat' (first | (with_reducible exact Below.refl _ _) | (with_reducible assumption) | (with_reducible refine Below.drewN ?_ _) | (with_reducible refine Below.alloc ?_ ?_ _) | (with_reducible refine Below.drew ?_) | (with_reducible refine Below.setCell ?_ ?_ _) | (with_reducible refine Below.trans ?_ (Below.mono (by assumption) ?_)) | go_size | (with_reducible refine Nat.le_trans ?_ (Below.size (by assumption)))))) (HRK.out j u hu))); (focus (first | (simp; done) | omega | (simp; omega))); intro v1 w1 o1 g1 n1; have b1 := Below.app (B := wp'.heap.size) (by first | exact (own0 (t := 3) (by simp) (by simp)) | exact World.ownsRow.alloc (own0 (t := 3) (by simp) (by simp)) _) (by first | (simp; done) | (simp; omega)) g1; have z1 : wp'.heap.size ≤ w1.heap.size := Nat.le_trans (by first | (simp; done) | (simp; omega)) b1.size)
                  | ((refine step_appS (by rfl) (.tmp 97) (.tmp 98) 23 (by rfl) wp'.heap.size 3 (.int .i64 0) 8 Try.underlying23 infoI rfl (by decide) _ (0 + q) ([] ++ ic (((sS L).drop 0).take q)) (by rfl) ⟨_, 0, none⟩ 1 _ [.int .i64 1] (by rfl) ?_ rfl ?_ (one_one _) (by omega) ?_ ?_); (focus (first | exact o1 | exact World.ownsRow.alloc o1 _)); (focus (first | exact cell_one_new _ _ _ | (refine news_one ((g1.cell_far _ ?_ ?_).trans ?_) <;> first | (exact cell_xy (by simp)) | (simp [Value.ownBlock]; done) | (simp [go_sem]; done)))); (focus (first | (simp; done) | omega | (simp; omega))); intro v2 w2 o2 g2 n2; have b2 := Below.app (B := wp'.heap.size) (by first | exact o1 | exact World.ownsRow.alloc o1 _) (by first | omega | (simp; omega)) g2; have z2 : wp'.heap.size ≤ w2.heap.size := Nat.le_trans (by first | omega | (simp; omega)) b2.size)
                  | ((refine step_appS (by rfl) (.tmp 99) (.tmp 102) 23 (by rfl) wp'.heap.size 3 (.int .i64 0) 8 Try.underlying23 infoI rfl (by decide) _ (0 + q + 1) ([] ++ ic (((sS L).drop 0).take q) ++ [.int .i64 1]) (by rfl) _ 0 _ [] (by rfl) ?_ rfl ?_ (fun u hu => by cases hu) (by omega) ?_ ?_); (focus exact o2); (focus (intro j u hu; simp at hu)); (focus (first | (simp; done) | omega | (simp; omega))); intro v3 w3 o3 g3' n3; have b3 := Below.app (B := wp'.heap.size) o2 (by omega) g3'; have z3 : wp'.heap.size ≤ w3.heap.size := Nat.le_trans z2 b3.size)))
              all_goals
                have hbw : Below wp'.heap.size wp' w3 := by (repeat' (first | (with_reducible exact Below.refl _ _) | (with_reducible assumption) | (with_reducible refine Below.drewN ?_ _) | (with_reducible refine Below.alloc ?_ ?_ _) | (with_reducible refine Below.drew ?_) | (with_reducible refine Below.setCell ?_ ?_ _) | (with_reducible refine Below.trans ?_ (Below.mono (by assumption) ?_)) | go_size | (with_reducible refine Nat.le_trans ?_ (Below.size (by assumption)))))
                have HO3 := Lib.hid o3
                have HBW := Lib.hid hbw
                obtain ⟨g6, cap6, rfl, hg6, hlt6⟩ := World.ownsRow.form o3 (by omega)
                clear o1 o2 o3 g1 g2 g3' b1 b2 b3 n1 n2 n3 hbw
                go_wp2_with fail
                go_meet
                have ho := HO3.out
                have he : 0 + q + 1 + 0 = q + 1 := by omega
                rw [he] at ho
                (try rw [he])
                have hx : [] ++ ic (((sS L).drop 0).take q) ++ [.int .i64 1] ++ [] = ic ((sS L).take q ++ 1 :: (sS L).drop q) := HLST.out
                rw [hx] at ho
                exact ⟨g6, cap6, rfl, ho, HBW.out⟩
            · have q7 : ¬ q = c4 := fun e => hck e.symm
              go_region_held3 (fun w' => True ∧ Below wp'.heap.size wp' w')
                ((exact ⟨trivial, by (repeat' (first | (with_reducible exact Below.refl _ _) | (with_reducible assumption) | (with_reducible refine Below.drewN ?_ _) | (with_reducible refine Below.alloc ?_ ?_ _) | (with_reducible refine Below.drew ?_) | (with_reducible refine Below.setCell ?_ ?_ _) | (with_reducible refine Below.trans ?_ (Below.mono (by assumption) ?_)) | go_size | (with_reducible refine Nat.le_trans ?_ (Below.size (by assumption)))))⟩))
                ((first
                  | ((refine step_appS (by rfl) (.tmp 93) (.tmp 96) 23 (by rfl) wp'.heap.size 3 (.int .i64 0) 8 Try.underlying23 infoI rfl (by decide) (.slice (some ⟨_, 0, none⟩) 0 0) 0 [] (by rfl) ⟨g4, 0, none⟩ q _ (ic (((sS L).drop 0).take q)) (by rfl) ?_ hlk ?_ ic_one (by omega) ?_ ?_); (focus (first | exact own0 (by simp) (by simp) | exact World.ownsRow.alloc (own0 (by simp) (by simp)) _)); (focus (intro j u hu; exact HBO.out _ _ _ (by (repeat' (first | (with_reducible exact Below.refl _ _) | (with_reducible assumption) | (with_reducible refine Below.drewN ?_ _) | (with_reducible refine Below.alloc ?_ ?_ _) | (with_reducible refine Below.drew ?_) | (with_reducible refine Below.setCell ?_ ?_ _) | (with_reducible refine Below.trans ?_ (Below.mono (by assumption) ?_)) | go_size | (with_reducible refine Nat.le_trans ?_ (Below.size (by assumption)))))) (HRK.out j u hu))); (focus (first | (simp; done) | omega | (simp; omega))); intro v1 w1 o1 g1 n1; have b1 := Below.app (B := wp'.heap.size) (by first | exact (own0 (t := 3) (by simp) (by simp)) | exact World.ownsRow.alloc (own0 (t := 3) (by simp) (by simp)) _) (by first | (simp; done) | (simp; omega)) g1; have z1 : wp'.heap.size ≤ w1.heap.size := Nat.le_trans (by first | (simp; done) | (simp; omega)) b1.size)
                  | ((refine step_appS (by rfl) (.tmp 97) (.tmp 98) 23 (by rfl) wp'.heap.size 3 (.int .i64 0) 8 Try.underlying23 infoI rfl (by decide) _ (0 + q) ([] ++ ic (((sS L).drop 0).take q)) (by rfl) ⟨_, 0, none⟩ 1 _ [.int .i64 1] (by rfl) ?_ rfl ?_ (one_one _) (by omega) ?_ ?_); (focus (first | exact o1 | exact World.ownsRow.alloc o1 _)); (focus (first | exact cell_one_new _ _ _ | (refine news_one ((g1.cell_far _ ?_ ?_).trans ?_) <;> first | (exact cell_xy (by simp)) | (simp [Value.ownBlock]; done) | (simp [go_sem]; done)))); (focus (first | (simp; done) | omega | (simp; omega))); intro v2 w2 o2 g2 n2; have b2 := Below.app (B := wp'.heap.size) (by first | exact o1 | exact World.ownsRow.alloc o1 _) (by first | omega | (simp; omega)) g2; have z2 : wp'.heap.size ≤ w2.heap.size := Nat.le_trans (by first | omega | (simp; omega)) b2.size)
                  | ((refine step_appS (by rfl) (.tmp 99) (.tmp 102) 23 (by rfl) wp'.heap.size 3 (.int .i64 0) 8 Try.underlying23 infoI rfl (by decide) _ (0 + q + 1) ([] ++ ic (((sS L).drop 0).take q) ++ [.int .i64 1]) (by rfl) _ 0 _ [] (by rfl) ?_ rfl ?_ (fun u hu => by cases hu) (by omega) ?_ ?_); (focus exact o2); (focus (intro j u hu; simp at hu)); (focus (first | (simp; done) | omega | (simp; omega))); intro v3 w3 o3 g3' n3; have b3 := Below.app (B := wp'.heap.size) o2 (by omega) g3'; have z3 : wp'.heap.size ≤ w3.heap.size := Nat.le_trans z2 b3.size)))
              all_goals
                have hbw : Below wp'.heap.size wp' w3 := by (repeat' (first | (with_reducible exact Below.refl _ _) | (with_reducible assumption) | (with_reducible refine Below.drewN ?_ _) | (with_reducible refine Below.alloc ?_ ?_ _) | (with_reducible refine Below.drew ?_) | (with_reducible refine Below.setCell ?_ ?_ _) | (with_reducible refine Below.trans ?_ (Below.mono (by assumption) ?_)) | go_size | (with_reducible refine Nat.le_trans ?_ (Below.size (by assumption)))))
                have HO3 := Lib.hid o3
                have HBW := Lib.hid hbw
                obtain ⟨g6, cap6, rfl, hg6, hlt6⟩ := World.ownsRow.form o3 (by omega)
                clear o1 o2 o3 g1 g2 g3' b1 b2 b3 n1 n2 n3 hbw
                go_wp2_with fail
                go_meet
                have ho := HO3.out
                have he : 0 + q + 1 + 0 = q + 1 := by omega
                rw [he] at ho
                (try rw [he])
                have hx : [] ++ ic (((sS L).drop 0).take q) ++ [.int .i64 1] ++ [] = ic ((sS L).take q ++ 1 :: (sS L).drop q) := HLST.out
                rw [hx] at ho
                exact ⟨g6, cap6, rfl, ho, HBW.out⟩
        case rest =>
          obtain ⟨g8, cap8, rfl, ho8, hb8⟩ := hcut
          have O8 := Lib.hid ho8
          have B8 := Lib.hid hb8
          clear ho8 hb8
          go_wp2_with fail
          go_ret2
          have e1 : fS (insP s L) = (fS L).take q ++ s :: (fS L).drop q := by rw [NEW.out]; simp [fS]
          have e2 : sS (insP s L) = (sS L).take q ++ 1 :: (sS L).drop q := by rw [NEW.out]; simp [sS]
          rw [e1, e2]
          exact ⟨g6, cap6, g8, cap8, k + 1, rfl, (DR.of_own (show OwnI _ _ _ _ _ from O6.out) hB).below B8.out, DR.of_own (show OwnI _ _ _ _ _ from O8.out) (Nat.le_trans hB zb), B6.out.trans (B8.out.mono zb)⟩

end Go.Proofs.Ytpcnjkgoehepaaa
