/- Rows of rows of numbers that a generator makes: their shape alone. spec.smallWays. -/
import Derived.Test.YtclfjnoedcimiaaMat
import Derived.Test.YtclfjnoedcimiaaGrow
import Derived.Test.YtclfjnoedcimiaaTab
import Derived.Maps.AppendAt
namespace Go.Proofs.Ytclfjnoedcimiaa
open Go.RowKit

theorem wpList_appS {P : Program} {w : World} {ops : Array Oper} {rest : List Oper} {o : Oper} {a : Act} {Q : Exit → Act → World → Prop} (hgd : o.guard = none) (s x : Operand) (t : TypeId)
    (ho : o.op = .call { callee := .builtin .append, args := #[s, x], argTypes := #[t, t] }) (base : Nat) (e : TypeId) (z : Value) (bytes : Nat)
    (ht : P.underlying t = some (.slice e)) (hinfo : (P.info? e).map (fun i => (i.zero, i.size, i.bytes)) = some (some z, 1, bytes)) (hzs : z.cells.size = 1) (hb64 : bytes ≤ 64)
    (v : Value) (n : Nat) (xs : List Value) (hs : a.eval s = v) (hown : w.ownsRow base e 1 v n xs) (ad : Addr) (m c : Nat) (news : List Value) (hx : a.eval x = .slice (some ad) m c)
    (hl : news.length = m) (hnews : ∀ j u, news[j]? = some u → w.cell? (ad.add j) = some u) (h1 : ∀ u ∈ news, u.oneCell' = true)
    (hn : n + m < 1099511627776) (hbase : base ≤ w.heap.size)
    (h : ∀ v' w', w'.ownsRow base e 1 v' (n + m) (xs ++ news) → w.grownBy w' v.ownBlock → (v'.ownBlock = v.ownBlock ∨ v'.ownBlock = some w.heap.size) → wpList P ops Q rest (a.put o.dst v') w') : wpList P ops Q (o :: rest) a w := by
  refine wpList_plain hgd fun K hK => ?_
  obtain ⟨i, hi, h3, h4, h5⟩ := info_parts hinfo
  have hb : (n + m) * bytes ≤ 140737488355328 := Nat.le_trans (Nat.mul_le_mul (show n + m ≤ 1099511627776 by omega) hb64) (by decide)
  obtain ⟨v', w', hr, o1, o2, _, o4⟩ := run_append_own_at (P := P) w base t o.type e i z 1 bytes ht hi h3 h4 h5 hzs (by decide) v n xs hown ad m c news (by omega) hnews h1 (by unfold maxLen; omega) hb hbase
  unfold Oper.wp execOp
  simp only [ho, resolve, invoke, builtin, Sem.run_bind, Sem.run_pure, Result.andThen_ok, List.map_toArray, List.map_cons, List.map_nil, hs, hx, hr]
  exact hK _ _ (h v' w' o1 o2 o4)

theorem own_below {w w' : World} {base n : Nat} {e : TypeId} {size : Nat} {v : Value} {xs : List Value} (h : w.ownsRow base e size v n xs) (hb : Below w.heap.size w w') : w'.ownsRow base e size v n xs :=
  World.ownsRow.kept h (row := none) ⟨hb.os, hb.tape, hb.output, hb.size, fun k hk _ => hb.block k hk⟩ (by cases hv : v.ownBlock <;> simp)

/-- A row of slices of the call's own, each of n numbers of its own. -/
structure GM (w : World) (base g4 c4 k n : Nat) : Prop where
  own : ∃ cs, w.ownsRow base 36 1 (.slice (some ⟨g4, 0, none⟩) k c4) k cs ∧ ∀ (j : Nat) (u : Value), cs[j]? = some u → ∃ (h c : Nat) (xs : List Int), u = .slice (some ⟨h, 0, none⟩) n c ∧ base ≤ h ∧ h ≠ g4 ∧ xs.length = n ∧ Blk w h 3 (ic xs)
theorem GM.base {w : World} {base g4 c4 k n : Nat} (h : GM w base g4 c4 k n) : base ≤ g4 ∧ g4 < w.heap.size := by
  obtain ⟨cs, h1, _⟩ := h.own
  exact ⟨(Blk.of_own h1).2, (Blk.of_own h1).1.lt⟩
theorem GM.below {w w' : World} {base g4 c4 k n : Nat} (h : GM w base g4 c4 k n) (hb : Below w.heap.size w w') : GM w' base g4 c4 k n := by
  obtain ⟨cs, h1, h2⟩ := h.own
  refine ⟨cs, World.ownsRow.kept h1 (row := none) ⟨hb.os, hb.tape, hb.output, hb.size, fun k hk _ => hb.block k hk⟩ (.inr (by simp [Value.ownBlock])), fun j u hu => ?_⟩
  obtain ⟨h, c, xs, a1, a2, a3, a4, a5⟩ := h2 j u hu
  exact ⟨h, c, xs, a1, a2, a3, a4, a5.below hb⟩
theorem GM.grown {w w' : World} {base g4 c4 k n gr : Nat} (h : GM w base g4 c4 k n) (hb : w.grownBy w' (some gr)) (hlt : gr < base) : GM w' base g4 c4 k n := by
  have hbs := h.base
  obtain ⟨cs, h1, h2⟩ := h.own
  refine ⟨cs, World.ownsRow.kept h1 (row := some gr) hb (.inr (by simp [Value.ownBlock]; omega)), fun j u hu => ?_⟩
  obtain ⟨h, c, xs, a1, a2, a3, a4, a5⟩ := h2 j u hu
  exact ⟨h, c, xs, a1, a2, a3, a4, a5.grown hb (by omega)⟩
theorem GM.at' {w : World} {base g4 c4 k n j : Nat} (h : GM w base g4 c4 k n) (hj : j < k) : ∃ (r c : Nat) (xs : List Int), w.cell? ⟨g4, j, none⟩ = some (.slice (some ⟨r, 0, none⟩) n c) ∧ base ≤ r ∧ r ≠ g4 ∧ xs.length = n ∧ Blk w r 3 (ic xs) := by
  obtain ⟨cs, h1, h2⟩ := h.own
  have hl : cs.length = k := by have := h1.1; omega
  obtain ⟨r, c, xs, a1, a2, a3, a4, a5⟩ := h2 j cs[j] (List.getElem?_eq_getElem _)
  refine ⟨r, c, xs, ?_, a2, a3, a4, a5⟩
  rw [← a1]
  exact (Blk.of_own h1).1.cell (List.getElem?_eq_getElem _)
theorem ic_seti (xs : List Int) (i : Nat) (v : Int) : (ic xs).set i (.int .i64 v) = ic (xs.set i v) := by
  unfold ic; rw [List.map_set]
theorem GM.set {w : World} {base g4 c4 k n r i : Nat} (h : GM w base g4 c4 k n) (hr : r ≠ g4) (v : Int) : GM (w.setCell ⟨r, i, none⟩ (.int .i64 v)) base g4 c4 k n := by
  obtain ⟨cs, h1, h2⟩ := h.own
  refine ⟨cs, World.ownsRow.kept h1 (row := some r) (grownBy_set (grownBy_refl _ _) _) (.inr (by simp [Value.ownBlock]; omega)), fun j u hu => ?_⟩
  obtain ⟨q, c, xs, a1, a2, a3, a4, a5⟩ := h2 j u hu
  by_cases e : q = r
  · subst e
    exact ⟨q, c, xs.set i v, a1, a2, a3, by rw [List.length_set]; exact a4, by rw [← ic_seti]; exact a5.set i _⟩
  · exact ⟨q, c, xs, a1, a2, a3, a4, a5.other _ (fun h => e h.symm)⟩
/-- One row more. -/
theorem GM.app {w wc w' : World} {base g4 c4 k n g' cap h c : Nat} {xs : List Int} (_ : GM w base g4 c4 k n) (hw : Below w.heap.size w wc) (hb : base ≤ h) (hne : h ≠ g4) (hlt : h < wc.heap.size) (hl : xs.length = n) (hx : Blk wc h 3 (ic xs)) {cs : List Value}
    (hcs : ∀ (j : Nat) (u : Value), cs[j]? = some u → ∃ (h c : Nat) (xs : List Int), u = .slice (some ⟨h, 0, none⟩) n c ∧ base ≤ h ∧ h ≠ g4 ∧ xs.length = n ∧ Blk w h 3 (ic xs))
    (o1 : w'.ownsRow base 36 1 (.slice (some ⟨g', 0, none⟩) (k + 1) cap) (k + 1) (cs ++ [.slice (some ⟨h, 0, none⟩) n c])) (o2 : wc.grownBy w' (some g4)) (o3 : some g4 = some g' ∨ wc.heap.size ≤ g') : GM w' base g' cap (k + 1) n := by
  have hne' : ∀ q, q < wc.heap.size → q ≠ g4 → q ≠ g' := by
    intro q hq h1
    rcases o3 with e | e
    · have := Option.some.inj e; omega
    · omega
  refine ⟨_, o1, fun j u hu => ?_⟩
  rw [List.getElem?_append] at hu
  split at hu
  · obtain ⟨q, c, ys, a1, a2, a3, a4, a5⟩ := hcs j u hu
    have a6 := a5.below hw
    exact ⟨q, c, ys, a1, a2, hne' q a6.lt a3, a4, a6.grown o2 a3⟩
  · rename_i hj
    have : u = .slice (some ⟨h, 0, none⟩) n c := by
      cases hq : j - cs.length with
      | zero => rw [hq] at hu; simp at hu; exact hu.symm
      | succ m => rw [hq] at hu; simp at hu
    exact ⟨h, c, xs, this, hb, hne' h hlt hne, hl, hx.grown o2 hne⟩
theorem GM.nil (w : World) (base n : Nat) (hb : base ≤ w.heap.size) : GM (w.alloc (.cells #[] 36)) base w.heap.size 0 0 n :=
  ⟨[], World.ownsRow_made w #[] 0 hb (by unfold maxLen; omega) rfl, fun j u hu => by simp at hu⟩

/-- Rows that came in, by their shape. -/
def RIn (w : World) (g k n : Nat) : Prop := ∀ j, j < k → ∃ (r c : Nat) (xs : List Int), w.cell? ⟨g, j, none⟩ = some (.slice (some ⟨r, 0, none⟩) n c) ∧ xs.length = n ∧ RowI w r 0 xs
theorem RIn.below {w w' : World} {g k n : Nat} (h : RIn w g k n) (hb : Below w.heap.size w w') : RIn w' g k n := by
  intro j hj
  obtain ⟨r, c, xs, a1, a2, a3⟩ := h j hj
  exact ⟨r, c, xs, keepC hb a1, a2, a3.below hb⟩
theorem GM.rin {w : World} {base g4 c4 k n : Nat} (h : GM w base g4 c4 k n) : RIn w g4 k n := by
  intro j hj
  obtain ⟨r, c, xs, a1, _, _, a4, a5⟩ := h.at' hj
  exact ⟨r, c, xs, a1, a4, a5.row⟩
/-- As rows of numbers. -/
theorem GM.mat {w : World} {base g4 c4 k n : Nat} (h : GM w base g4 c4 k n) : ∃ (H C : Nat → Nat) (xss : List (List Int)), MatC w g4 H C xss ∧ xss.length = k ∧ ∀ j, j < k → (gl xss j).length = n := by
  obtain ⟨cs, h1, h2⟩ := h.own
  have hl : cs.length = k := by have := h1.1; omega
  have hall : ∀ j, ∃ (p : Nat × Nat × List Int), j < k → cs[j]? = some (.slice (some ⟨p.1, 0, none⟩) n p.2.1) ∧ p.2.2.length = n ∧ Blk w p.1 3 (ic p.2.2) := by
    intro j
    by_cases hj : j < k
    · obtain ⟨r, c, xs, a1, _, _, a4, a5⟩ := h2 j cs[j] (List.getElem?_eq_getElem _)
      exact ⟨(r, c, xs), fun _ => ⟨by rw [List.getElem?_eq_getElem (by omega), a1], a4, a5⟩⟩
    · exact ⟨(0, 0, []), fun h => absurd h hj⟩
  obtain ⟨f, hf⟩ := Classical.skolem.1 hall
  have hgl : ∀ j, j < k → gl ((List.range k).map fun j => (f j).2.2) j = (f j).2.2 := by
    intro j hj
    unfold gl
    simp [hj]
  refine ⟨fun j => (f j).1, fun j => (f j).2.1, (List.range k).map fun j => (f j).2.2, ⟨⟨cs, by simp [hl], fun j hj => ?_, (Blk.of_own h1).1⟩, fun j hj => ?_⟩, by simp, fun j hj => by rw [hgl j hj]; exact (hf j hj).2.1⟩
  · have hj' : j < k := by simpa using hj
    rw [hgl j hj', (hf j hj').2.1]
    exact (hf j hj').1
  · have hj' : j < k := by simpa using hj
    rw [hgl j hj']
    exact (hf j hj').2.2

theorem ic_ones (xs : List Int) : ∀ u ∈ ic xs, u.oneCell' = true := by
  intro u hu
  obtain ⟨x, _, rfl⟩ := List.mem_map.1 hu
  rfl
theorem RowI.cells0 {w : World} {g : Nat} {xs : List Int} (h : RowI w g 0 xs) : ∀ j v, (ic xs)[j]? = some v → w.cell? ((⟨g, 0, none⟩ : Addr).add j) = some v := by
  intro j v hj
  by_cases hk : j < xs.length
  · have := h.cell j hk
    rw [get_ic hk] at hj
    cases hj
    rw [Nat.zero_add] at this
    rw [← this]
    by_cases h0 : j = 0
    · subst h0; rfl
    · simp [Addr.add, h0]
  · rw [List.getElem?_eq_none (by rw [ic_length]; omega)] at hj
    cases hj

set_option maxHeartbeats 4000000 in
theorem smallWays_any (g0 c0 n : Nat) (w : World) (h : RIn w g0 n n) (n0 : 1 ≤ n) (n6 : n ≤ 6) :
    Calls Try.prog 57 #[.slice (some ⟨g0, 0, none⟩) n c0] w fun e w' => ∃ g c, e = .returned (.slice (some ⟨g, 0, none⟩) n c) ∧ GM w' w.heap.size g c n n ∧ Below w.heap.size w w' := by
  have H := Lib.hid h
  clear h
  go_enter Try.func57, Try.ntmps57
  go_wp2_with fail
  go_loopw [3, 4] (fun v3 v4 wr => ∃ k g3 c3 : Nat, v4 = .int .i64 k ∧ k ≤ n ∧ v3 = .slice (some ⟨g3, 0, none⟩) k c3 ∧ GM wr w.heap.size g3 c3 k n ∧ Below w.heap.size w wr) (fun _ v4 _ => n - (intOf v4).toNat)
  case atStart => exact ⟨0, w.heap.size, 0, rfl, Nat.zero_le _, rfl, GM.nil w w.heap.size n (Nat.le_refl _), by (repeat' (first | (with_reducible exact Below.refl _ _) | (with_reducible assumption) | (with_reducible refine Below.drewN ?_ _) | (with_reducible refine Below.alloc ?_ ?_ _) | (with_reducible refine Below.drew ?_) | (with_reducible refine Below.setCell ?_ ?_ _) | (with_reducible refine Below.trans ?_ (Below.mono (by assumption) ?_)) | go_size | (with_reducible refine Nat.le_trans ?_ (Below.size (by assumption)))))⟩
  case round =>
    obtain ⟨k, g3, c3, rfl, hk, rfl, hgm, hb⟩ := hrel
    have G := Lib.hid hgm
    have B := Lib.hid hb
    have hz := hb.size
    have hgb := hgm.base
    by_cases hlt : k < n
    · obtain ⟨r, cr, xs, y1, hxl, hrow⟩ := (H.out.below hb) k hlt
      have R := Lib.hid hrow
      have HXL := Lib.hid hxl
      obtain ⟨cs, o0, hcs⟩ := hgm.own
      have O0 := Lib.hid o0
      have HCS := Lib.hid hcs
      have hrl := hrow.blk
      have y2 : (wr.alloc (.cells #[] 3)).cell? ⟨g0, k, none⟩ = some (.slice (some ⟨r, 0, none⟩) n cr) := keepC below_alloc y1
      clear y1
      clear hgm hb hrow hxl o0 hcs
      go_wp2_with (first
        | (at_builtin; refine wpList_appS rfl (.tmp 16) (.tmp 20) 36 rfl wr.heap.size 3 (.int .i64 0) 8 Try.underlying36 infoI rfl (by decide) _ 0 [] rfl (World.ownsRow_made (size := 1) wr #[] 0 (Nat.le_refl _) (by unfold maxLen; omega) rfl) ⟨r, 0, none⟩ n cr (ic xs) rfl (by rw [ic_length]; exact HXL.out) (R.out.below below_alloc).cells0 (ic_ones xs) (by omega) (by simp) ?_; intro v5 w5 o1 o2 o3; obtain ⟨g5, cap5, hv5, hg5⟩ : ∃ g cap, v5 = .slice (some ⟨g, 0, none⟩) (0 + n) cap ∧ wr.heap.size ≤ g := OwnI.shape (xs := xs) (by rw [List.nil_append] at o1; exact o1) (by omega); subst hv5; rw [Nat.zero_add, List.nil_append] at o1; have z5 := o2.size; rw [World.size_alloc] at z5; have b5 : Below wr.heap.size wr w5 := below_alloc.trans (Below.app (B := wr.heap.size) (World.ownsRow_made (size := 1) wr #[] 0 (Nat.le_refl _) (by unfold maxLen; omega) rfl) (by simp) o2))
        | (at_builtin; refine wpList_app1 rfl (.tmp 15) (.tmp 22) 23 rfl w.heap.size 36 (.slice none 0 0) 1 24 Try.underlying23 infoSS rfl (by decide) (by decide) _ _ _ rfl (own_below (own_below O0.out b5) below_alloc) ⟨_, 0, none⟩ 1 [.slice (some ⟨g5, 0, none⟩) n cap5] rfl rfl (cell_one_new _ _ _ ) (by simp [Value.oneCell']) (by omega) (by simp; omega) ?_; intro g6 cap6 w6 p1 p2 p3))
      have z6 := p2.size
      rw [World.size_alloc] at z6
      have G6 := Lib.hid (GM.app (wc := w5.alloc (.cells #[.slice (some ⟨g5, 0, none⟩) n cap5] 36)) G.out (b5.trans (below_alloc.mono (by omega))) (show w.heap.size ≤ g5 by omega) (show g5 ≠ g3 by omega) (by have := (Blk.of_own o1).1.lt; rw [World.size_alloc]; omega) HXL.out ((Blk.of_own o1).1.below below_alloc) HCS.out p1 p2 p3)
      have B6 := Lib.hid (((B.out.trans (b5.mono hz)).alloc (by omega) (.cells #[.slice (some ⟨g5, 0, none⟩) n cap5] 36)).trans (Below.app (B := w.heap.size) (own_below (own_below O0.out b5) below_alloc) (by rw [World.size_alloc]; omega) p2))
      go_roundw
      case rel => exact ⟨k + 1, g6, cap6, by go_num, by omega, rfl, G6.out, B6.out⟩
      case measure => simp [intOf]; omega
    · obtain rfl : k = n := by omega
      clear hgm hb
      go_wp2_with fail
      go_loopw [5] (fun v5 wr => ∃ c : Nat, v5 = .int .i64 c ∧ c ≤ k ∧ GM wr w.heap.size g3 c3 k k ∧ Below w.heap.size w wr) (fun v5 _ => k - (intOf v5).toNat)
      case atStart => exact ⟨0, rfl, Nat.zero_le _, G.out, B.out⟩
      case round =>
        clear G B hz hgb
        obtain ⟨c, rfl, hc, hgm, hb⟩ := hrel
        have G := Lib.hid hgm
        have B := Lib.hid hb
        clear hgm hb
        by_cases hlc : c < k
        · go_wp2_with fail
          go_loopw [6] (fun v6 wr => ∃ a : Nat, v6 = .int .i64 a ∧ a ≤ k ∧ GM wr w.heap.size g3 c3 k k ∧ Below w.heap.size w wr) (fun v6 _ => k - (intOf v6).toNat)
          case atStart => exact ⟨0, rfl, Nat.zero_le _, G.out, B.out⟩
          case round =>
            clear G B
            obtain ⟨a, rfl, ha, hgm, hb⟩ := hrel
            have G := Lib.hid hgm
            have B := Lib.hid hb
            clear hgm hb
            by_cases hla : a < k
            · go_wp2_with fail
              go_loopw [7] (fun v7 wr => ∃ b : Nat, v7 = .int .i64 b ∧ b ≤ k ∧ GM wr w.heap.size g3 c3 k k ∧ Below w.heap.size w wr) (fun v7 _ => k - (intOf v7).toNat)
              case atStart => exact ⟨0, rfl, Nat.zero_le _, G.out, B.out⟩
              case round =>
                clear G B
                obtain ⟨b, rfl, hb1, hgm, hb⟩ := hrel
                have G := Lib.hid hgm
                have B := Lib.hid hb
                by_cases hlb : b < k
                · obtain ⟨ra, ca, xa, y1, q1, q2, q3, k1⟩ := hgm.at' hla
                  obtain ⟨rc, cc, xc, y2, p1, p2, p3, k2⟩ := hgm.at' hlc
                  have x1 := k1.cell (get_ic (xs := xa) (k := b) (by omega))
                  have x2 := k1.cell (get_ic (xs := xa) (k := c) (by omega))
                  have x3 := k2.cell (get_ic (xs := xc) (k := b) (by omega))
                  have f1 := k1.frozen b
                  have HQ := Lib.hid q2
                  obtain ⟨u1, hu1⟩ : ∃ x, gi xa b = x := ⟨_, rfl⟩
                  obtain ⟨u2, hu2⟩ : ∃ x, gi xa c = x := ⟨_, rfl⟩
                  obtain ⟨u3, hu3⟩ : ∃ x, gi xc b = x := ⟨_, rfl⟩
                  rw [hu1] at x1
                  rw [hu2] at x2
                  rw [hu3] at x3
                  obtain ⟨mm, hmm⟩ : ∃ m, max u2 u3 = m := ⟨_, rfl⟩
                  obtain ⟨nn, hnn⟩ : ∃ m, min u1 mm = m := ⟨_, rfl⟩
                  have m1 : (if u2 < u3 then u3 else u2) = mm := by rw [← hmm]; split <;> omega
                  have m2 : (if mm < u1 then mm else u1) = nn := by rw [← hnn]; split <;> omega
                  have hwr : w.heap.size ≤ ra := q1
                  clear k1 k2 p1 p2 p3 q1 q3 q2 hgm hb hu1 hu2 hu3
                  go_wp2_with fail
                  (refine region_tail 29 (by kernel_rfl) (by kernel_rfl) ?_; simp only [List.take_succ_cons, List.take_zero, List.drop_succ_cons, List.drop_zero]; (repeat (go_big_quiet_step (fail))); refine wpQuiet_nil ?_)
                  go_wp2_with fail
                  go_roundw
                  case rel => exact ⟨b + 1, by go_num, by omega, (G.out.below below_drew).set HQ.out _, (B.out.drew).setCell hwr _⟩
                  case measure => simp [intOf]; omega
                · obtain rfl : b = k := by omega
                  clear hgm hb
                  go_wp2_with fail
                  go_roundw
                  case rel => exact ⟨a + 1, by go_num, by omega, G.out, B.out⟩
                  case measure => simp [intOf]; omega
            · obtain rfl : a = k := by omega
              go_wp2_with fail
              go_roundw
              case rel => exact ⟨c + 1, by go_num, by omega, G.out, B.out⟩
              case measure => simp [intOf]; omega
        · obtain rfl : c = k := by omega
          go_wp2_with fail
          go_ret
          exact ⟨g3, c3, rfl, G.out, B.out⟩


end Go.Proofs.Ytclfjnoedcimiaa
