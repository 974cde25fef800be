/- 'append(s, t...)' at a step of a region that draws its order: rows of one cell each; a number put into its place in a row that does not fall. -/
import Derived.Test.YtpcnjkgoehepaaaOrd
import Derived.Maps.AppendAt
import Derived.RegionTactic
namespace Go.Proofs.Ytpcnjkgoehepaaa
open Go.RowKit

section
variable {P : Program} {w : World}
theorem run_appS (t ty : TypeId) (base : Nat) (e : TypeId) (z : Value) (bytes : Nat) (ht : P.underlying t = some (.slice e)) (hinfo : (P.info? e).map (fun i => (i.zero, i.size, i.bytes)) = some (some z, 1, bytes))
    (hzs : z.cells.size = 1) (hb64 : bytes ≤ 64) (v : Value) (n : Nat) (xs : List Value) (hown : w.ownsRow base e 1 v n xs)
    (ad : Addr) (m c : Nat) (news : List Value) (hl : news.length = m) (hnews : ∀ j u, news[j]? = some u → w.cell? (ad.add j) = some u) (h1 : ∀ u ∈ news, u.oneCell' = true)
    (hn : n + m < 1099511627776) (hbase : base ≤ w.heap.size) :
    ∃ v' w', (Builtin.append_ #[t, t] ty #[v, .slice (some ad) m c]).run P w = .ok v' w' ∧ w'.ownsRow base e 1 v' (n + m) (xs ++ news) ∧ w.grownBy w' v.ownBlock ∧ (v' = .slice none 0 0 → v = .slice none 0 0) := by
  obtain ⟨i, hi, h3, h4, h5⟩ := info_parts hinfo
  have hb : (n + m) * bytes ≤ 140737488355328 := Nat.le_trans (Nat.mul_le_mul (show n + m ≤ 1099511627776 by omega) hb64) (by decide)
  have h63 : n + m ≤ maxLen := by unfold maxLen; omega
  obtain ⟨v', w', hr, o1, o2, o3, _⟩ := run_append_own_at (P := P) w base t ty e i z 1 bytes ht hi h3 h4 h5 hzs (by decide) v n xs hown ad m c news (by omega) hnews h1 h63 hb hbase
  exact ⟨v', w', hr, o1, o2, fun h => (o3.1 h).1⟩

theorem step_appS {ops : Array Oper} {o : Oper} {a : Act} {K : Act → World → Prop} {Q : Exit → Act → World → Prop} {E : Prop} (hgd : o.guard = none) (s x : Operand) (t : TypeId)
    (ho : o.op = .call { callee := .builtin .append, args := #[s, x], argTypes := #[t, t] }) (base : Nat) (e : TypeId) (z : Value) (bytes : Nat)
    (ht : P.underlying t = some (.slice e)) (hinfo : (P.info? e).map (fun i => (i.zero, i.size, i.bytes)) = some (some z, 1, bytes)) (hzs : z.cells.size = 1) (hb64 : bytes ≤ 64)
    (v : Value) (n : Nat) (xs : List Value) (hs : a.eval s = v) (ad : Addr) (m c : Nat) (news : List Value) (hx : a.eval x = .slice (some ad) m c)
    (hown : w.ownsRow base e 1 v n xs) (hl : news.length = m) (hnews : ∀ j u, news[j]? = some u → w.cell? (ad.add j) = some u) (h1 : ∀ u ∈ news, u.oneCell' = true)
    (hn : n + m < 1099511627776) (hbase : base ≤ w.heap.size)
    (h : ∀ v' w', w'.ownsRow base e 1 v' (n + m) (xs ++ news) → w.grownBy w' v.ownBlock → (v' = .slice none 0 0 → v = .slice none 0 0) → K (a.put o.dst v') w') :
    if Region.wanted o (yielded ops a.tmps) = true then Oper.wp P o a w K Q else E := by
  have hw : Region.wanted o (yielded ops a.tmps) = true := by simp [Region.wanted, hgd]
  rw [if_pos hw]
  obtain ⟨v', w', hr, o1, o2, o3⟩ := run_appS (P := P) t o.type base e z bytes ht hinfo hzs hb64 v n xs hown ad m c news hl hnews h1 hn hbase
  unfold Oper.wp execOp
  simp only [ho, resolve, invoke, builtin, Sem.run_bind, Sem.run_pure, Result.andThen_ok, List.map_toArray, List.map_cons, List.map_nil, hs, hx, hr]
  exact h v' w' o1 o2 o3
end

theorem own0 {w : World} {base g : Nat} {t : TypeId} (hg : w.heap.size = g) (hb : base ≤ g) : (w.alloc (.cells #[] t)).ownsRow base t 1 (.slice (some ⟨g, 0, none⟩) 0 0) 0 [] := by
  subst hg
  exact World.ownsRow_made w #[] 0 hb (by unfold maxLen; omega) (by simp)
theorem news_one {w : World} {g : Nat} {x : Value} (h : w.cell? ⟨g, 0, none⟩ = some x) : ∀ j u, [x][j]? = some u → w.cell? ((⟨g, 0, none⟩ : Addr).add j) = some u := by
  intro j u hu
  cases j with
  | zero => simp at hu; subst hu; exact h
  | succ j => simp at hu
theorem cell_xy {w : World} {g : Nat} {x : Value} {t t' : TypeId} (hg : w.heap.size = g) : ((w.alloc (.cells #[x] t)).alloc (.cells #[] t')).cell? ⟨g, 0, none⟩ = some x := by
  subst hg
  have h1 : (w.alloc (.cells #[x] t)).cell? ⟨w.heap.size, 0, none⟩ = some x := cell_one_new w x t 0 x rfl
  exact (below_alloc.cell (World.block_lt_of_cell? _ _ h1)).trans h1
theorem keepBX {W w : World} {p : Addr} {v : Value} (h : W.cell? p = some v) (hb : Below W.heap.size W w) : w.cell? p = some v ∧ Below W.heap.size W w :=
  ⟨(hb.cell (World.block_lt_of_cell? W p h)).trans h, hb⟩
theorem keepBX2 {W w : World} {p q : Addr} {u v : Value} (h : W.cell? p = some u) (h' : W.cell? q = some v) (hb : Below W.heap.size W w) : w.cell? p = some u ∧ w.cell? q = some v ∧ Below W.heap.size W w :=
  ⟨(hb.cell (World.block_lt_of_cell? W p h)).trans h, (hb.cell (World.block_lt_of_cell? W q h')).trans h', hb⟩
theorem own_mono {w : World} {base base' n : Nat} {e : TypeId} {size : Nat} {v : Value} {xs : List Value} (h : w.ownsRow base e size v n xs) (hb : base' ≤ base) : w.ownsRow base' e size v n xs := by
  rcases h with ⟨h1, h2 | ⟨g, cap, cur, a1, a2, a3⟩⟩
  · exact ⟨h1, .inl h2⟩
  · exact ⟨h1, .inr ⟨g, cap, cur, a1, Nat.le_trans hb a2, a3⟩⟩
theorem ic_one {L : List Int} : ∀ u ∈ ic L, u.oneCell' = true := by
  intro u hu
  unfold ic at hu
  obtain ⟨x, _, rfl⟩ := List.mem_map.1 hu
  rfl
theorem one_one (x : Int) : ∀ u ∈ [Value.int .i64 x], u.oneCell' = true := by
  intro u hu
  simp at hu
  subst hu
  rfl
theorem ic_app (A B : List Int) : ic (A ++ B) = ic A ++ ic B := by unfold ic; simp
theorem ic_take (A : List Int) (k : Nat) : ic (A.take k) = (ic A).take k := by unfold ic; simp
/-- The cells of a part of a row. -/
theorem RowI.news {w : World} {b o : Nat} {xs : List Int} (h : RowI w b o xs) (k m : Nat) (hk : k + m ≤ xs.length) : ∀ j u, (ic ((xs.drop k).take m))[j]? = some u → w.cell? ((⟨b, o + k, none⟩ : Addr).add j) = some u := by
  intro j u hu
  unfold ic at hu
  rw [List.getElem?_map, List.getElem?_take] at hu
  split at hu
  · rename_i hj
    rw [List.getElem?_drop, List.getElem?_eq_getElem (by omega)] at hu
    simp at hu
    subst hu
    have := h.cell (k + j) (by omega)
    rw [gi_eq (by omega)] at this
    have e : (⟨b, o + k, none⟩ : Addr).add j = ⟨b, o + (k + j), none⟩ := by
      unfold Addr.add
      split <;> simp_all [Nat.add_assoc]
    rw [e]
    exact this
  · simp at hu
theorem ins_at {f : Int → Int} {x : Int} {L : List Int} {k : Nat} (hs : Srt f L) (hk : k ≤ L.length) (h1 : ∀ j, j < k → f (gi L j) ≤ f x) (h2 : k < L.length → f x < f (gi L k)) : insK f x L = L.take k ++ x :: L.drop k := by
  have e : L = L.take k ++ L.drop k := (List.take_append_drop k L).symm
  have hA : ∀ y ∈ L.take k, f y ≤ f x := by
    intro y hy
    obtain ⟨j, hj, rfl⟩ := List.getElem_of_mem hy
    have hj' : j < k := by simp at hj; omega
    rw [List.getElem_take]
    have := h1 j hj'
    rwa [gi_eq (by omega)] at this
  have hB : ∀ y ∈ L.drop k, f x < f y := by
    by_cases hkl : k < L.length
    · have h2 := h2 hkl
      rw [gi_eq hkl] at h2
      have e2 : L.drop k = L[k] :: L.drop (k + 1) := List.drop_eq_getElem_cons hkl
      have hs2 : Srt f (L.drop k) := List.Pairwise.sublist (List.drop_sublist k L) hs
      rw [e2] at hs2 ⊢
      intro y hy
      rcases List.mem_cons.1 hy with rfl | hy
      · exact h2
      · have := (List.pairwise_cons.1 hs2).1 y hy
        omega
    · rw [List.drop_eq_nil_of_le (by omega)]
      intro y hy
      cases hy
  conv => lhs; rw [e]
  exact insK_split hA hB

/-- The first n numbers by size. -/
def srtI (xs : List Int) : Nat → List Int
  | 0 => []
  | n + 1 => insK id (gi xs n) (srtI xs n)
theorem srtI_length (xs : List Int) : ∀ n, (srtI xs n).length = n
  | 0 => rfl
  | n + 1 => by rw [srtI, insK_length, srtI_length xs n]
theorem srtI_srt (xs : List Int) : ∀ n, Srt id (srtI xs n)
  | 0 => List.Pairwise.nil
  | n + 1 => insK_srt (srtI_srt xs n)
theorem insKp {f : Int → Int} {x : Int} : ∀ L : List Int, (insK f x L).Perm (x :: L)
  | [] => List.Perm.refl _
  | y :: ys => by
    have ih := insKp (f := f) (x := x) ys
    simp only [insK]
    split
    · exact (ih.cons y).trans (List.Perm.swap x y ys)
    · exact List.Perm.refl _
theorem srtI_perm (xs : List Int) : ∀ n, n ≤ xs.length → (srtI xs n).Perm (xs.take n)
  | 0, _ => List.Perm.refl _
  | n + 1, h => by
    rw [srtI, List.take_add_one, List.getElem?_eq_getElem (by omega), gi_eq (by omega)]
    exact (insKp _).trans (((srtI_perm xs n (by omega)).cons _).trans (List.perm_append_comm (l₁ := [xs[n]])))
/-- Numbers by size. -/
def srt (xs : List Int) : List Int := srtI xs xs.length
theorem srt_length (xs : List Int) : (srt xs).length = xs.length := srtI_length xs _
theorem srt_perm (xs : List Int) : (srt xs).Perm xs := by
  have := srtI_perm xs xs.length (Nat.le_refl _)
  rwa [List.take_of_length_le (Nat.le_refl _)] at this
theorem srt_up (xs : List Int) : (srt xs).Pairwise fun a b => a ≤ b := srtI_srt xs _
theorem srt_eq {xs L : List Int} (hp : L.Perm xs) (hs : L.Pairwise fun a b => a ≤ b) : L = srt xs :=
  List.Perm.eq_of_pairwise (fun a b _ _ h1 h2 => by omega) hs (srt_up xs) (hp.trans (srt_perm xs).symm)

end Go.Proofs.Ytpcnjkgoehepaaa
