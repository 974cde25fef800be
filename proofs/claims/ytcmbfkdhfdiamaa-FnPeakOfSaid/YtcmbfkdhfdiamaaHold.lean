/- Regions that draw their order: reads, whose cells no operation but the last one turns; behind them calls and the like in one forced order, whose results may differ from world to world. No program here. -/
import Derived.Test.YtcmbfkdhfdiamaaTail
import Derived.OrdersHeld
import Derived.Deep.RegionHeld3
namespace Go.Proofs.Ytcmbfkdhfdiamaa
open Go.RowKit

section
variable {P : Program} {ops : Array Oper} {md : Region.Mode} {C : World → Prop} {Q : Exit → Act → World → Prop} {z : Nat}

/-- No way out by panic but for number z. -/
def postZ (Q : Exit → Act → World → Prop) (z i : Nat) : Exit → Act → World → Prop := if i = z then Q else NoPanic Q
theorem postZ_at : postZ Q z z = Q := by simp [postZ]
theorem postZ_ne {i : Nat} (h : i ≠ z) : postZ Q z i = NoPanic Q := by simp [postZ, h]
theorem wp_of_noPanic {o : Oper} {a : Act} {w : World} {K : Act → World → Prop} (h : o.wp P a w K (NoPanic Q)) : o.wp P a w K Q := by
  unfold Oper.wp at *
  generalize (execOp a.eval o).run P w = r at *
  cases r with
  | ok n w' =>
    cases n <;> simp only [Oper.upon] at h ⊢ <;>
      first
        | exact h
        | exact Calls.mono h (fun e w'' he => by cases e <;> first | exact he | exact (he : False).elim)
  | halt x w' => cases x <;> simp only [Oper.upon] at h ⊢ <;> exact (h : False).elim
theorem wpOp_of_postZ {i : Nat} {K : Act → World → Prop} {a : Act} {w : World} (h : wpOp P ops (postZ Q z i) i K a w) : wpOp P ops Q i K a w := by
  by_cases hi : i = z
  · subst hi; rwa [postZ_at] at h
  · rw [postZ_ne hi] at h
    unfold wpOp at *
    split
    · simpa [*] using h
    · rename_i o ho
      simp only [ho] at h
      split
      · rename_i hw
        rw [if_pos hw] at h
        rcases h with h | ⟨h1, h2⟩
        · exact .inl (wp_of_noPanic h)
        · exact .inr ⟨h1, h2⟩
      · rename_i hw
        rw [if_neg hw] at h
        exact h

/-- Whatever order comes up, and C holds behind each operation but number z. -/
def wpAnyM (P : Program) (md : Region.Mode) (ops : Array Oper) (Q : Exit → Act → World → Prop) (C : World → Prop) (z : Nat) : Nat → Array Bool → Act → World → Prop
  | 0, listed, a, w => Region.ready md ops listed = [] ∧ Q .normal a w
  | f + 1, listed, a, w => (Region.ready md ops listed = [] → Q .normal a w) ∧
    ∀ i ∈ Region.ready md ops listed, wpOp P ops (postZ Q z i) i (fun a' w' => (i ≠ z → C w') ∧ wpAnyM P md ops Q C z f (listed.setIfInBounds i true) a' w') a w

theorem wpAny_of_M : ∀ (f : Nat) (listed : Array Bool) (a : Act) (w : World), wpAnyM P md ops Q C z f listed a w → wpAny P md ops Q f listed a w
  | 0, _, _, _, h => h
  | f + 1, _, _, _, h => ⟨h.1, fun i hi => wpOp_mono (fun a' w' h' => wpAny_of_M f _ a' w' h'.2) (wpOp_of_postZ (h.2 i hi))⟩

theorem wpAnyM_first {i : Nat} {oi : Oper} {v : Value} (hi : ops[i]? = some oi) (hsel : ∀ (j : Nat) (o : Oper) cs b, ops[j]? = some o → o.op ≠ .select cs b)
    (hs : Region.sinkB md ops z = true) (hc : Region.chainB md ops z = true) (hz : z < ops.size) (hiz : i < z) :
    ∀ (f : Nat) (listed : Array Bool) (a : Act) (w : World), HeadInv md ops z listed →
      (∀ j oj, ops[j]? = some oj → j ≠ i → listed.getD j true = false → (∀ e ∈ oj.after, Region.binds md e = true → e.on ≠ i) → oi.apart ops oj = true) →
      i ∈ Region.ready md ops listed → YieldsIf P ops C oi v a → C w →
      wpAnyM P md ops Q C z f (listed.setIfInBounds i true) (a.put oi.dst v) w → wpAnyM P md ops Q C z (f + 1) listed a w := by
  intro f
  induction f with
  | zero =>
    intro listed a w _ _ hr hy hC H
    refine ⟨fun h => (by rw [h] at hr; cases hr), fun j hj => ?_⟩
    by_cases hji : j = i
    · subst hji; exact hy.wpOp hi hC ⟨fun _ => hC, H⟩
    · have := ready_mono hj hji
      rw [H.1] at this
      cases this
  | succ f ih =>
    intro listed a w inv hfree hr hy hC H
    refine ⟨fun h => (by rw [h] at hr; cases hr), fun j hj => ?_⟩
    by_cases hji : j = i
    · subst hji; exact hy.wpOp hi hC ⟨fun _ => hC, H⟩
    · have hjz : j < z := Nat.lt_of_not_le fun h => tail_waits hs hc hz inv _ i rfl hiz (mem_ready.1 hr).1 j h hj
      have h1 := H.2 j (ready_mono hj hji)
      rw [postZ_ne (by omega)] at h1 ⊢
      obtain ⟨hjun, oj, hoj, hall⟩ := mem_ready.1 hj
      have hnot : ∀ e ∈ oj.after, Region.binds md e = true → e.on ≠ i := fun e he hb heq => by
        have h1 := hall e he hb
        rw [heq, getD_both (mem_ready.1 hr).1] at h1
        cases h1
      have h2 := wpOp_putIf hoj (hfree j oj hoj hji hjun hnot) (fun cs b => hsel i oi cs b hi) (fun cs b => hsel j oj cs b hoj) (fun _ _ _ h => h) hy h1
      have hfree' : ∀ k ok, ops[k]? = some ok → k ≠ i → (listed.setIfInBounds j true).getD k true = false →
          (∀ e ∈ ok.after, Region.binds md e = true → e.on ≠ i) → oi.apart ops ok = true := fun k ok hk hki hun hno => by
        refine hfree k ok hk hki ?_ hno
        by_cases hjk : j = k
        · subst hjk; exact hjun
        · rw [getD_set_ne true hjk] at hun; exact hun
      refine wpOp_mono (fun a' w' h3 => ⟨fun _ => h3.2.1 (by omega), ih (listed.setIfInBounds j true) a' w' (inv.set hj hjz) hfree' (ready_mono hr (Ne.symm hji)) h3.1 (h3.2.1 (by omega)) ?_⟩) h2
      rw [Array.setIfInBounds_comm _ _ hji]
      exact h3.2.2

/-- Reads, in the text's order: each leaves one value in every world of the class. -/
def wpRead (P : Program) (ops : Array Oper) (C : World → Prop) (T : Act → Prop) : List Oper → Act → Prop
  | [], a => T a
  | o :: rest, a => ∃ v, YieldsIf P ops C o v a ∧ wpRead P ops C T rest (a.put o.dst v)
theorem wpRead_nil {T : Act → Prop} {a : Act} (h : T a) : wpRead P ops C T [] a := h
theorem wpRead_step {T : Act → Prop} {a : Act} {o : Oper} {rest : List Oper} {v : Value} (hw : Region.wanted o (yielded ops a.tmps) = true) (hv : ∀ w, C w → (execOp a.eval o).run P w = .ok (.value v) w)
    (h : wpRead P ops C T rest (a.put o.dst v)) : wpRead P ops C T (o :: rest) a := ⟨v, .inl ⟨hw, hv⟩, h⟩

theorem wpAnyM_lex {n g : Nat} {T : Act → Prop} {w : World} (hsel : Region.noSelect ops = true) (hs : Region.sinkB md ops z = true) (hc : Region.chainB md ops z = true) (hz : z < ops.size) (hnz : n ≤ z)
    (hC : C w)
    (hT : ∀ listed a, Region.seqB md ops g n listed = true → T a → wpAnyM P md ops Q C z g listed a w) :
    ∀ (l : List Oper) (k : Nat) (listed : Array Bool) (a : Act), (∀ j, j < l.length → l[j]? = ops[k + j]?) → k + l.length = n → HeadInv md ops z listed →
    Region.lexHead md ops g l.length k listed = true → wpRead P ops C T l a → wpAnyM P md ops Q C z (l.length + g) listed a w
  | [], k, listed, a, _, hk, _, hB, h => by
    obtain rfl : k = n := by simpa using hk
    rw [List.length_nil, Nat.zero_add]
    exact hT listed a (by simpa [Region.lexHead] using hB) h
  | o :: l, k, listed, a, hl, hk, inv, hB, h => by
    have h0 : ops[k]? = some o := by simpa using (hl 0 (by simp)).symm
    simp only [List.length_cons, Region.lexHead, Bool.and_eq_true] at hB
    simp only [List.length_cons] at hk
    obtain ⟨⟨hr, hf⟩, hB'⟩ := hB
    have hr' : k ∈ Region.ready md ops listed := by simpa using hr
    obtain ⟨v, hy, hK⟩ := h
    rw [List.length_cons, Nat.add_right_comm]
    refine wpAnyM_first h0 (Region.noSelect_spec hsel) hs hc hz (by omega) _ listed a w inv (Region.free_spec h0 hf) hr' hy hC ?_
    exact wpAnyM_lex hsel hs hc hz hnz hC hT l (k + 1) _ _ (fun j hj => by have := hl (j + 1) (by simp; omega); simpa [Nat.add_assoc, Nat.add_comm 1 j] using this) (by omega) (inv.set hr' (by omega)) hB' hK

/-- What is asked behind one operation of the tail: the class, and the rest. -/
def chainX (Q : Exit → Act → World → Prop) (C : World → Prop) (N : Act → World → Prop) : Exit → Act → World → Prop
  | .normal, a, w => C w ∧ N a w
  | .panic _, _, _ => False
  | e, a, w => Q e a w
theorem chainX_normal {N : Act → World → Prop} {a : Act} {w : World} (h1 : C w) (h2 : N a w) : chainX Q C N .normal a w := ⟨h1, h2⟩
/-- The tail, one operation behind the other. -/
def chainS (P : Program) (ops : Array Oper) (Q : Exit → Act → World → Prop) (C : World → Prop) : List Oper → Act → World → Prop
  | [], a, w => Q .normal a w
  | [o], a, w => wpList P ops Q [o] a w
  | o :: o' :: rest, a, w => wpList P ops (chainX Q C (chainS P ops Q C (o' :: rest))) [o] a w
theorem chainS_one {o : Oper} {a : Act} {w : World} (h : wpList P ops Q [o] a w) : chainS P ops Q C [o] a w := h
theorem chainS_two {o o' : Oper} {rest : List Oper} {a : Act} {w : World} (h : wpList P ops (chainX Q C (chainS P ops Q C (o' :: rest))) [o] a w) : chainS P ops Q C (o :: o' :: rest) a w := h

theorem wp_of_chainX {o : Oper} {a : Act} {w : World} {N : Act → World → Prop} (h : o.wp P a w (wpList P ops (chainX Q C N) []) (chainX Q C N)) : o.wp P a w (fun a' w' => C w' ∧ N a' w') (NoPanic Q) := by
  unfold Oper.wp at *
  generalize (execOp a.eval o).run P w = r at *
  cases r with
  | ok n w' =>
    cases n <;> simp only [Oper.upon] at h ⊢ <;>
      first
        | exact h
        | exact Calls.mono h (fun e w'' he => by cases e <;> exact he)
        | exact Rows.mono h (fun _ _ he => he)
  | halt x w' => cases x <;> simp only [Oper.upon] at h ⊢ <;> exact h

theorem wpAnyM_of_chain (hzs : z + 1 = ops.size) : ∀ (l : List Oper) (k : Nat) (listed : Array Bool) (a : Act) (w : World), (∀ j, l[j]? = ops[k + j]?) → k + l.length = ops.size →
    Region.seqB md ops l.length k listed = true → chainS P ops Q C l a w → wpAnyM P md ops Q C z l.length listed a w
  | [], _, _, _, _, _, _, hB, h => ⟨by simpa [Region.seqB] using hB, h⟩
  | [o], k, listed, a, w, hl, hk, hB, h => by
    have h0 : ops[k]? = some o := by simpa using (hl 0).symm
    simp only [List.length_cons, List.length_nil, Nat.zero_add, Region.seqB, Bool.and_eq_true, decide_eq_true_eq] at hB
    refine ⟨fun h1 => (by rw [hB.1] at h1; cases h1), fun i hi => ?_⟩
    rw [hB.1] at hi
    have hik : i = k := by simpa using hi
    subst hik
    obtain rfl : i = z := by simp at hk; omega
    rw [postZ_at]
    have hw : wpOp P ops Q i (wpList P ops Q []) a w := by unfold wpOp; simp only [h0]; exact h
    refine wpOp_mono (fun a' w' h' => ⟨fun hne => absurd rfl hne, by simpa [wpAnyM] using hB.2, h'⟩) hw
  | o :: o' :: rest, k, listed, a, w, hl, hk, hB, h => by
    have h0 : ops[k]? = some o := by simpa using (hl 0).symm
    rw [List.length_cons] at hB ⊢
    simp only [Region.seqB, Bool.and_eq_true, decide_eq_true_eq] at hB
    refine ⟨fun h1 => (by rw [hB.1] at h1; cases h1), fun i hi => ?_⟩
    rw [hB.1] at hi
    have hik : i = k := by simpa using hi
    subst hik
    rw [postZ_ne (by simp at hk; omega)]
    have hw : wpOp P ops (NoPanic Q) i (fun a' w' => C w' ∧ chainS P ops Q C (o' :: rest) a' w') a w := by
      unfold wpOp
      simp only [h0]
      have h' : wpList P ops (chainX Q C (chainS P ops Q C (o' :: rest))) [o] a w := h
      unfold wpList at h'
      split at h'
      · rename_i hwt
        rw [if_pos hwt]
        rcases h' with h' | ⟨h1, h2⟩
        · exact .inl (wp_of_chainX h')
        · exact .inr ⟨h1, h2⟩
      · rename_i hwt
        rw [if_neg hwt]
        exact h'
    exact wpOp_mono (fun a' w' h' => ⟨fun _ => h'.1, wpAnyM_of_chain hzs (o' :: rest) (i + 1) _ a' w' (fun j => by have := hl (j + 1); simpa [Nat.add_assoc, Nat.add_comm 1 j] using this) (by simp at hk ⊢; omega) hB.2 h'.2⟩) hw

def lexReadB (md : Region.Mode) (ops : Array Oper) (n : Nat) : Bool :=
  Region.noSelect ops && decide (n < ops.size) && Region.sinkB md ops (ops.size - 1) && Region.chainB md ops (ops.size - 1) && Region.lexHead md ops (ops.size - n) n 0 (Array.replicate ops.size false)

theorem region_read_tail {id : Nat} {a : Act} {w : World} {l : List Oper} (n : Nat) (hm : P.follows .mixedOrders = true) (hB : lexReadB .any l.toArray n = true)
    (hC : C w.drew)
    (h : wpRead P l.toArray C (fun a' => chainS P l.toArray Q C (l.drop n) a' w.drew) (l.take n) a) : (Code.region id l.toArray true).wp P Q a w := by
  simp only [lexReadB, Bool.and_eq_true, decide_eq_true_eq] at hB
  obtain ⟨⟨⟨⟨hsel, hn⟩, hs⟩, hc⟩, hlex⟩ := hB
  have hn' : n < l.length := by simpa using hn
  have htl : (l.take n).length = n := by simp; omega
  have hdl : (l.drop n).length = l.toArray.size - n := by simp
  have hzs : l.toArray.size - 1 + 1 = l.toArray.size := by omega
  have inv : HeadInv .any l.toArray (l.toArray.size - 1) (Array.replicate l.toArray.size false) :=
    ⟨by simp, fun j _ _ hj => (by rw [getD_replicate_false] at hj; cases hj), fun t _ ht => getD_in (by simpa using ht) (getD_replicate_false _ _)⟩
  have hM := wpAnyM_lex (md := .any) (Q := Q) (n := n) (z := l.toArray.size - 1) (g := l.toArray.size - n) hsel hs hc (by omega) (by omega) hC (fun listed a' hB' hT => by
    have := wpAnyM_of_chain (md := .any) (Q := Q) (C := C) hzs (l.drop n) n listed a' w.drew (fun j => by simp [List.getElem?_drop]) (by rw [hdl]; omega) (by rw [hdl]; exact hB') hT
    rwa [hdl] at this) (l.take n) 0 _ a (fun j hj => by rw [htl] at hj; simp [hj]) (by simpa using htl) inv (by rw [htl]; exact hlex) h
  have hA := wpAny_of_M _ _ _ _ hM
  rw [htl, show n + (l.toArray.size - n) = l.toArray.size by omega] at hA
  exact wp_region_any hm hA
end

end Go.Proofs.Ytcmbfkdhfdiamaa
