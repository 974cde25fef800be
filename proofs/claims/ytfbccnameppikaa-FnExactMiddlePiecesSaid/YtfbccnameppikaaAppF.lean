/- 'append' of one element to a slice that is full: a new row. -/
import Derived.Test.YtfbccnameppikaaBlk
import Derived.Test.YtfbccnameppikaaToInt
namespace Go.Proofs.Ytfbccnameppikaa
open Go.RowKit

theorem wpList_app_full {P : Program} {w : World} {e : TypeId} {size : Nat} {ops : Array Oper} {rest : List Oper} {o : Oper} {a : Act} {Q : Exit → Act → World → Prop} (hgd : o.guard = none) (s x : Operand) (t : TypeId)
    (ho : o.op = .call { callee := .builtin .append, args := #[s, x], argTypes := #[t, t] }) (z : Value) (bytes : Nat)
    (ht : P.underlying t = some (.slice e)) (hinfo : (P.info? e).map (fun i => (i.zero, i.size, i.bytes)) = some (some z, size, bytes)) (hzs : z.cells.size = size) (hb64 : bytes ≤ 64)
    (b : Addr) (n : Nat) (olds : List Value) (hs : a.eval s = .slice (some b) n n) (hlo : olds.length = n * size) (holds : ∀ j v, olds[j]? = some v → w.cell? (b.add j) = some v)
    (ad : Addr) (c : Nat) (news : List Value) (hx : a.eval x = .slice (some ad) 1 c) (hl : news.length = size) (hnews : ∀ j u, news[j]? = some u → w.cell? (ad.add j) = some u)
    (hn : n < 1099511627776)
    (h : ∀ cap w', w'.ownsRow w.heap.size e size (.slice (some ⟨w.heap.size, 0, none⟩) (n + 1) cap) (n + 1) (olds ++ news) → Below w.heap.size w w' →
      wpList P ops Q rest (a.put o.dst (.slice (some ⟨w.heap.size, 0, none⟩) (n + 1) cap)) w') : wpList P ops Q (o :: rest) a w := by
  refine wpList_plain hgd fun K hK => ?_
  obtain ⟨i, hi, h3, h4, h5⟩ := info_parts hinfo
  subst h4
  have hb : (n + 1) * i.bytes ≤ 140737488355328 := Nat.le_trans (Nat.mul_le_mul (show n + 1 ≤ 1099511627776 by omega) (show i.bytes ≤ 64 by omega)) (by decide)
  have hr := run_append_grow (P := P) (w := w) t o.type e i z ht hi h3 b n n olds hlo holds ad 1 c news (by rw [hl, Nat.one_mul]) hnews (by omega) (by omega) (growslice_fits (by omega) hb)
  have hge := grownCap_ge w (n + 1) n e
  have hcm : grownCap w (n + 1) n e ≤ maxLen := grownCap_le_maxLen w (n + 1) n e (by unfold maxLen; omega)
  have hlen : (olds ++ news).length = (n + 1) * i.size := by rw [List.length_append, hlo, hl, Nat.add_mul, Nat.one_mul]
  unfold Oper.wp execOp
  simp only [ho, resolve, invoke, builtin, Sem.run_bind, Sem.run_pure, Result.andThen_ok, List.map_toArray, List.map_cons, List.map_nil, hs, hx, hr]
  refine hK _ _ (h _ _ ⟨hlen, .inr ⟨w.heap.size, _, _, rfl, Nat.le_refl _, heap_alloc_new w.drew _, hge, hcm, ?_, ?_⟩⟩ ?_)
  · simp only [Array.size_append, List.size_toArray, size_zeroCells, hzs, hlo, hl]
    have e1 : n * i.size + i.size = (n + 1) * i.size := by rw [Nat.add_mul, Nat.one_mul]
    rw [e1, ← Nat.add_mul]
    congr 1
    omega
  · simp only [Array.toList_append, List.append_assoc]
    rw [← List.append_assoc, ← hlen]
    exact List.take_left
  · exact (Below.refl _ _).drew.alloc (Nat.le_refl _) _

theorem RowI.cells {w : World} {g : Nat} {xs : List Int} (h : RowI w g 0 xs) : ∀ j v, (ic xs)[j]? = some v → w.cell? ((⟨g, 0, none⟩ : Addr).add j) = some v := by
  intro j v hj
  by_cases hk : j < xs.length
  · have := h.cell j hk
    rw [get_ic hk] at hj
    cases hj
    rw [Nat.zero_add] at this
    rw [← this]
    by_cases h0 : j = 0
    · subst h0; rfl
    · simp [Addr.add, h0]
  · rw [List.getElem?_eq_none (by rw [ic_length]; omega)] at hj
    cases hj

end Go.Proofs.Ytfbccnameppikaa
