/- Rows of integers in memory, and small facts for the walks. No program here. -/
import Derived.WalkKit
import Derived.Lib.Hide
import Derived.Deep.QuietTactic
import Derived.BigQuiet
import Derived.StillTailTactics
import Derived.WalkSmall
namespace Go.Proofs.Ytpcnjkgoehepaaa
open Go.RowKit

theorem quiet_same {P : Program} {f : FuncId} {args : Array Value} {w : World} {n : Nat} {v : Value}
    (h : Calls P f args (w.drewN n) fun e w' => e = .returned v ∧ w.drewN n = w') : Calls P f args (w.drewN n) fun e w'' => e = .returned v ∧ ∃ m, w'' = w.drewN m :=
  h.mono fun _ _ ⟨he, hm⟩ => ⟨he, n, hm.symm⟩

theorem Below.drewN {B : Nat} {a w : World} (h : Below B a w) : ∀ n, Below B a (w.drewN n)
  | 0 => h
  | n + 1 => Below.drew (Below.drewN h n)

theorem still_of_quiet {P : Program} {ops : Array Oper} {W : World} {Q : Act → Prop} : ∀ (l : List Oper) (a : Act), wpQuiet P ops (fun w' => w' = W) Q l a → wpStill P ops W Q l a
  | [], _, h => h
  | o :: rest, a, h => by
    unfold wpQuiet at h
    unfold wpStill
    split at h
    · rename_i hw
      rw [if_pos hw]
      obtain ⟨v, h1, h2⟩ := h
      have h1 := h1 W rfl
      unfold Oper.quietAt at h1
      unfold Oper.still
      have h3 := still_of_quiet rest _ h2
      revert h1
      generalize Sem.run P (execOp a.eval o) W = r
      intro h1
      unfold Oper.quietUpon at h1
      unfold Oper.stillUpon
      split at h1
      · obtain ⟨e1, e2⟩ := h1; subst e2; exact ⟨e1, h3⟩
      · obtain ⟨e1, e2⟩ := h1; subst e2; exact ⟨e1, h3⟩
      · obtain ⟨e1, e2⟩ := h1; exact ⟨e1, v, e2, h3⟩
      · exact h1.elim
    · rename_i hw
      rw [if_neg hw]
      exact still_of_quiet rest _ h

/-- A region that draws its order: its first n operations only read; the others follow in their order. -/
theorem region_tail {P : Program} {id : Nat} {Q : Exit → Act → World → Prop} {a : Act} {w : World} {l : List Oper} (n : Nat) (hm : P.follows .mixedOrders = true) (hB : Region.lexTailB .any l.toArray n = true)
    (h : wpQuiet P l.toArray (fun w' => w' = w.drew) (fun a' => wpList P l.toArray Q (l.drop n) a' w.drew) (l.take n) a) : (Code.region id l.toArray true).wp P Q a w :=
  wp_region_still_tail n hm hB (still_of_quiet _ _ h)

theorem wp_abstract {P : Program} {c : Code} {Q : Exit → Act → World → Prop} {a : Act} {w : World} (F : World → Prop) (hF : F w) (h : ∀ W, F W → c.wp P Q a W) : c.wp P Q a w := h w hF

theorem bcell {B : Nat} {W w1 : World} (hb : Below B W w1) : (∀ b o, b < B → w1.cell? ⟨b, o, none⟩ = W.cell? ⟨b, o, none⟩) ∧ (∀ b o, b < B → w1.frozen? ⟨b, o, none⟩ = W.frozen? ⟨b, o, none⟩) :=
  ⟨fun b o h => hb.cell (p := ⟨b, o, none⟩) h, fun b o h => hb.frozen (p := ⟨b, o, none⟩) h⟩

/-- The number at an index. -/
def gi (xs : List Int) (k : Nat) : Int := xs.getD k 0
theorem gi_eq {xs : List Int} {k : Nat} (h : k < xs.length) : gi xs k = xs[k] := by unfold gi; simp [h]
/-- The row at an index. -/
def gl (xss : List (List Int)) (k : Nat) : List Int := xss.getD k []

/-- A row of integers lies at a place. -/
structure RowI (w : World) (b o : Nat) (xs : List Int) : Prop where
  blk : b < w.heap.size
  cell : ∀ k, k < xs.length → w.cell? ⟨b, o + k, none⟩ = some (.int .i64 (gi xs k))

/-- A row of rows of integers lies at a place. -/
structure RowII (w : World) (b o : Nat) (B O C : Nat → Nat) (xss : List (List Int)) : Prop where
  blk : b < w.heap.size
  outer : ∀ k, k < xss.length → w.cell? ⟨b, o + k, none⟩ = some (.slice (some ⟨B k, O k, none⟩) (gl xss k).length (C k))
  inner : ∀ k, k < xss.length → RowI w (B k) (O k) (gl xss k)

theorem RowI.below {w w' : World} {b o : Nat} {xs : List Int} (h : RowI w b o xs) (hb : Below w.heap.size w w') : RowI w' b o xs :=
  ⟨Nat.lt_of_lt_of_le h.blk hb.size, fun k hk => (hb.cell (p := ⟨b, o + k, none⟩) h.blk).trans (h.cell k hk)⟩

theorem RowII.below {w w' : World} {b o : Nat} {B O C : Nat → Nat} {xss : List (List Int)} (h : RowII w b o B O C xss) (hb : Below w.heap.size w w') : RowII w' b o B O C xss :=
  ⟨Nat.lt_of_lt_of_le h.blk hb.size, fun k hk => (hb.cell (p := ⟨b, o + k, none⟩) h.blk).trans (h.outer k hk), fun k hk => (h.inner k hk).below hb⟩

theorem RowII.cell2 {w : World} {b o : Nat} {B O C : Nat → Nat} {xss : List (List Int)} (h : RowII w b o B O C xss) {k j : Nat} (hk : k < xss.length) (hj : j < (gl xss k).length) :
    w.cell? ⟨B k, O k + j, none⟩ = some (.int .i64 (gi (gl xss k) j)) := (h.inner k hk).cell j hj


theorem keepcell {B : Nat} {W w1 : World} {p : Addr} {v : Value} (hb : Below B W w1) (hp : p.block < B) (h : W.cell? p = some v) : w1.cell? p = some v := (hb.cell hp).trans h

section
variable {P : Program} {w : World} {base : Nat} {e : TypeId} {size : Nat}

theorem nil_ne {a : Option Addr} {n c : Nat} (h : a ≠ none) : Value.slice a n c ≠ .slice none 0 0 := fun e => by cases e; exact h rfl

/-- 'append(s, x)' of one element: where the result lies, and what it owns. -/
theorem run_app1 (t ty : TypeId) (i : TypeInfo) (z : Value) (bytes : Nat) (ht : P.underlying t = some (.slice e)) (hi : P.info? e = some i) (hz : i.zero = some z)
    (hsize : i.size = size) (hby : i.bytes = bytes) (hzs : z.cells.size = size) (hsz : 0 < size) (v : Value) (n : Nat) (xs : List Value) (hown : w.ownsRow base e size v n xs)
    (a : Addr) (c : Nat) (news : List Value) (hl : news.length = size) (hnews : ∀ j u, news[j]? = some u → w.cell? (a.add j) = some u) (h1 : ∀ u ∈ news, u.oneCell' = true)
    (hn : n < 1099511627776) (hb64 : bytes ≤ 64) (hbase : base ≤ w.heap.size) :
    ∃ g cap w', (Builtin.append_ #[t, t] ty #[v, .slice (some a) 1 c]).run P w = .ok (.slice (some ⟨g, 0, none⟩) (n + 1) cap) w' ∧
      w'.ownsRow base e size (.slice (some ⟨g, 0, none⟩) (n + 1) cap) (n + 1) (xs ++ news) ∧ w.grownBy w' v.ownBlock ∧ (v.ownBlock = some g ∨ w.heap.size ≤ g) := by
  have hb : (n + 1) * bytes ≤ 140737488355328 := Nat.le_trans (Nat.mul_le_mul (show n + 1 ≤ 1099511627776 by omega) hb64) (by decide)
  have h63 : n + 1 ≤ maxLen := by unfold maxLen; omega
  obtain ⟨v', w', hr, o1, o2, o3⟩ := run_append_own (P := P) w base t ty e i z size bytes ht hi hz hsize hby hzs hsz v n xs hown a 1 c news (by rw [hl, Nat.one_mul]) hnews h1 h63 hb hbase
  have hne : v' ≠ .slice none 0 0 := fun h => by have := (o3.1 h).2; omega
  rcases o1.2 with ⟨h, _⟩ | ⟨g, cap, _, rfl, _, _⟩
  · exact absurd h hne
  refine ⟨g, cap, w', hr, o1, o2, ?_⟩
  rcases hown.2 with ⟨rfl, rfl⟩ | ⟨g0, cap0, cur, rfl, hb0, hg0, hnc, hcm, hcs, htake⟩
  · right
    have hr2 := run_append_nil (P := P) (w := w) t ty e i z ht hi hz a 1 c news (by rw [hl, hsize, Nat.one_mul]) hnews (by omega) (by omega) (by rw [hby]; omega)
    rw [hr] at hr2
    injection hr2 with hv _
    simp only [Value.slice.injEq, Option.some.injEq, Addr.mk.injEq] at hv
    omega
  · by_cases hroom : n + 1 ≤ cap0
    · left
      have hfit : n * i.size + news.length ≤ cur.size := by
        rw [hl, hcs, hsize]
        calc n * size + size = (n + 1) * size := by rw [Nat.add_mul, Nat.one_mul]
          _ ≤ cap0 * size := Nat.mul_le_mul_right _ hroom
      have hr2 := run_append_room (P := P) w t ty e i ht hi g0 n cap0 cur hg0 a 1 c news (by rw [hl, hsize, Nat.one_mul]) hnews h1 hroom hfit
      rw [hr] at hr2
      injection hr2 with hv _
      simp only [Value.slice.injEq, Option.some.injEq, Addr.mk.injEq] at hv
      simp only [Value.ownBlock, Option.some.injEq]
      omega
    · right
      have holds : ∀ j u, xs[j]? = some u → w.cell? ((⟨g0, 0, none⟩ : Addr).add j) = some u := hown.cells (g := g0) rfl
      have hr2 := run_append_grow (P := P) (w := w) t ty e i z ht hi hz ⟨g0, 0, none⟩ n cap0 xs (by rw [hown.1, hsize]) holds a 1 c news (by rw [hl, hsize, Nat.one_mul]) hnews (by omega) (by omega) (growslice_fits (by omega) (by rw [hby]; exact hb))
      rw [hr] at hr2
      injection hr2 with hv _
      simp only [Value.slice.injEq, Option.some.injEq, Addr.mk.injEq] at hv
      omega

theorem wpList_app1 {ops : Array Oper} {rest : List Oper} {o : Oper} {a : Act} {Q : Exit → Act → World → Prop} (hgd : o.guard = none) (s x : Operand) (t : TypeId)
    (ho : o.op = .call { callee := .builtin .append, args := #[s, x], argTypes := #[t, t] }) (base : Nat) (e : TypeId) (z : Value) (size bytes : Nat)
    (ht : P.underlying t = some (.slice e)) (hinfo : (P.info? e).map (fun i => (i.zero, i.size, i.bytes)) = some (some z, size, bytes)) (hzs : z.cells.size = size) (hsz : 0 < size) (hb64 : bytes ≤ 64)
    (v : Value) (n : Nat) (xs : List Value) (hs : a.eval s = v) (hown : w.ownsRow base e size v n xs)
    (ad : Addr) (c : Nat) (news : List Value) (hx : a.eval x = .slice (some ad) 1 c) (hl : news.length = size) (hnews : ∀ j u, news[j]? = some u → w.cell? (ad.add j) = some u) (h1 : ∀ u ∈ news, u.oneCell' = true)
    (hn : n < 1099511627776) (hbase : base ≤ w.heap.size)
    (h : ∀ g cap w', w'.ownsRow base e size (.slice (some ⟨g, 0, none⟩) (n + 1) cap) (n + 1) (xs ++ news) → w.grownBy w' v.ownBlock → (v.ownBlock = some g ∨ w.heap.size ≤ g) →
      wpList P ops Q rest (a.put o.dst (.slice (some ⟨g, 0, none⟩) (n + 1) cap)) w') : wpList P ops Q (o :: rest) a w := by
  refine wpList_plain hgd fun K hK => ?_
  obtain ⟨i, hi, h3, h4, h5⟩ := info_parts hinfo
  obtain ⟨g, cap, w', hr, o1, o2, o3⟩ := run_app1 (P := P) (w := w) (base := base) t o.type i z bytes ht hi h3 h4 h5 hzs hsz v n xs hown ad c news hl hnews h1 hn hb64 hbase
  unfold Oper.wp execOp
  simp only [ho, resolve, invoke, builtin, Sem.run_bind, Sem.run_pure, Result.andThen_ok, List.map_toArray, List.map_cons, List.map_nil, hs, hx, hr]
  exact hK _ _ (h g cap w' o1 o2 o3)

/-- What an append leaves below the first block of its own. -/
theorem Below.app {B : Nat} {w w' : World} {v : Value} {n : Nat} {xs : List Value} {e : TypeId} {size : Nat} (hown : w.ownsRow B e size v n xs) (hB : B ≤ w.heap.size) (hg : w.grownBy w' v.ownBlock) : Below B w w' :=
  (Below.refl B w).grown hg hB (fun k hk => (hown.lt k hk).1)
end

/-- The cells of a list of integers. -/
def ic (xs : List Int) : List Value := xs.map (Value.int .i64)
theorem ic_length (xs : List Int) : (ic xs).length = xs.length := by simp [ic]
theorem ic_append (xs : List Int) (n : Int) : ic xs ++ [.int .i64 n] = ic (xs ++ [n]) := by simp [ic]
theorem gi_append_lt {xs : List Int} {n : Int} {k : Nat} (h : k < xs.length) : gi (xs ++ [n]) k = gi xs k := by unfold gi; simp [List.getElem?_append, h]
theorem gi_append_eq {xs : List Int} {n : Int} : gi (xs ++ [n]) xs.length = n := by unfold gi; simp

/-- A list of n integers that the call owns. -/
def OwnI (w : World) (base : Nat) (v : Value) (n : Nat) (xs : List Int) : Prop := w.ownsRow base 3 1 v n (ic xs)
theorem OwnI.len {w : World} {base : Nat} {v : Value} {n : Nat} {xs : List Int} (h : OwnI w base v n xs) : xs.length = n := by
  have := h.1
  rwa [ic_length, Nat.mul_one] at this
theorem OwnI.row {w : World} {base g cap m n : Nat} {xs : List Int} (h : OwnI w base (.slice (some ⟨g, 0, none⟩) m cap) n xs) : RowI w g 0 xs := by
  unfold OwnI at h
  rcases h.2 with ⟨h0, _⟩ | ⟨g', cap', cur, hv, hb, hg, hnc, hcm, hcs, htake⟩
  · cases h0
  · cases hv
    refine ⟨(Array.getElem?_eq_some_iff.1 hg).1, fun k hk => ?_⟩
    rw [Nat.zero_add, cell_of_row w g k cur 3 (0, 0) hg]
    have h2 : (ic xs)[k]? = some (.int .i64 (gi xs k)) := by simp [ic, gi_eq hk, hk]
    rw [← htake, List.getElem?_take] at h2
    split at h2
    · simpa using h2
    · cases h2
theorem OwnI.nil (w : World) (base : Nat) : OwnI w base (.slice none 0 0) 0 [] := World.ownsRow_nil w base 3 1
theorem OwnI.shape {w : World} {base : Nat} {v : Value} {n : Nat} {xs : List Int} (h : OwnI w base v n xs) (hne : n ≠ 0) : ∃ g cap, v = .slice (some ⟨g, 0, none⟩) n cap ∧ base ≤ g := by
  rcases h.2 with ⟨_, h0⟩ | ⟨g', cap', cur, hv, hb, _⟩
  · exact absurd h0 hne
  · exact ⟨g', cap', hv, hb⟩
theorem OwnI.below {w w' : World} {base : Nat} {v : Value} {n : Nat} {xs : List Int} (h : OwnI w base v n xs) (hb : Below w.heap.size w w') : OwnI w' base v n xs :=
  World.ownsRow.kept h (row := none) ⟨hb.os, hb.tape, hb.output, hb.size, fun k hk _ => hb.block k hk⟩ (by cases hv : v.ownBlock <;> simp)
theorem OwnI.pop {w : World} {base g cap : Nat} {xs : List Int} {x : Int} {n : Nat} (h : OwnI w base (.slice (some ⟨g, 0, none⟩) (n + 1) cap) (n + 1) (xs ++ [x])) : OwnI w base (.slice (some ⟨g, 0, none⟩) n cap) n xs := by
  have hl := h.len
  have hl2 : xs.length = n := by simpa using hl
  have h' : w.ownsRow base 3 1 (.slice (some ⟨g, 0, none⟩) (n + 1) cap) (n + 1) (ic xs ++ [.int .i64 x]) := by
    rw [ic_append]
    exact h
  exact ownsRow_pop (by rw [ic_length, Nat.mul_one]; exact hl2) h'
theorem OwnI.app {w : World} {base : Nat} {v : Value} {n : Nat} {xs : List Int} {x : Int} (h : w.ownsRow base 3 1 v n (ic xs ++ [.int .i64 x])) : OwnI w base v n (xs ++ [x]) := by
  rw [ic_append] at h
  exact h

end Go.Proofs.Ytpcnjkgoehepaaa
