/- Regions that draw their order: reads and calls that make memory, one alloc anywhere between, and one store into it at last: one walk of the text's order. No program here. -/
import Derived.Test.YtoioafadenniiaaTail
import Derived.Test.YtoioafadenniiaaBlk
namespace Go.Proofs.Ytoioafadenniiaa
open Go.RowKit

section
variable {P : Program} {ops : Array Oper} {md : Region.Mode} {C : World → Prop}

theorem runN_add (P : Program) : ∀ (a b : Nat) (m m' : Machine), runN P a m = .next m' → runN P (a + b) m = runN P b m'
  | 0, b, m, m', h => by
    simp only [runN] at h
    cases h
    rw [Nat.zero_add]
  | a + 1, b, m, m', h => by
    rw [Nat.add_right_comm]
    simp only [runN] at h ⊢
    cases hs : step P m with
    | next m1 => rw [hs] at h; exact runN_add P a b m1 m' h
    | ended o w => rw [hs] at h; cases h

/-- A frame that ends the machine. -/
def endFrame (P : Program) : Frame := { fn := P.funcs.size, tmps := #[], todo := [], defers := [], mode := .returning, kind := .report }
theorem endFrame_ends (P : Program) (w : World) : ∃ o w', step P (lone (endFrame P) [] w) = .ended o w' := by
  refine ⟨_, _, step_lone_ended (o := .stuck "report: Error or String returned no string" "") (w' := w) ?_⟩
  simp [stepG, unwind, endFrame, doReturn]

/-- A call's value is one. -/
theorem calls_det {f : FuncId} {args : Array Value} {w : World} {v v' : Value} {R R' : World → Prop} (h : Calls P f args w fun e w' => e = .returned v ∧ R w') (h' : Calls P f args w fun e w' => e = .returned v' ∧ R' w') : v = v' := by
  obtain ⟨_, w1, fr1, ⟨rfl, _⟩, ⟨n1, s1⟩, _, l1⟩ := h [endFrame P]
  obtain ⟨_, w2, fr2, ⟨rfl, _⟩, ⟨n2, s2⟩, _, l2⟩ := h' [endFrame P]
  have key : ∀ (n k : Nat) (m : Machine) (fr fr' : Frame) (w w' : World) (u : Value), fr.leaving P w (.returned u) → runN P n m = .next (lone fr [endFrame P] w) → runN P (n + k) m = .next (lone fr' [endFrame P] w') → fr = fr' ∧ w = w' := by
    intro n k m fr fr' w w' u hl hs hs'
    rw [runN_add P n k m _ hs] at hs'
    cases k with
    | zero =>
      simp only [runN, lone] at hs'
      cases hs'
      exact ⟨rfl, rfl⟩
    | succ j =>
      simp only [runN, step_leave_returned hl] at hs'
      have hf : (endFrame P).finish u = endFrame P := rfl
      rw [hf] at hs'
      cases j with
      | zero => simp only [runN, lone] at hs'; cases hs'
      | succ j =>
        obtain ⟨o, w3, h3⟩ := endFrame_ends P w
        simp only [runN, h3] at hs'
        cases hs'
  have same : fr1 = fr2 ∧ w1 = w2 := by
    rcases Nat.le_total n1 n2 with hn | hn
    · obtain ⟨k, rfl⟩ := Nat.le.dest hn
      exact key n1 k _ fr1 fr2 w1 w2 v l1 s1 s2
    · obtain ⟨k, rfl⟩ := Nat.le.dest hn
      obtain ⟨h1, h2⟩ := key n2 k _ fr2 fr1 w2 w1 v' l2 s2 s1
      exact ⟨h1.symm, h2.symm⟩
  obtain ⟨rfl, rfl⟩ := same
  obtain ⟨_, _, _, fn, hf, hr⟩ := l1
  obtain ⟨_, _, _, fn', hf', hr'⟩ := l2
  rw [hf] at hf'
  cases hf'
  rw [hr] at hr'
  cases hr'
  rfl

theorem yields_det {C' : World → Prop} {o : Oper} {v v' : Value} {a : Act} {w : World} (hC : C w) (hC' : C' w) (h : YieldsIn P ops C o v a) (h' : YieldsIn P ops C' o v' a) : v = v' := by
  rcases h with ⟨hw, h⟩ | ⟨hw, rfl⟩
  · rcases h' with ⟨_, h'⟩ | ⟨hw', _⟩
    · have h1 := h w hC
      have h2 := h' w hC'
      unfold Oper.quietAt at h1 h2
      generalize (execOp a.eval o).run P w = r at *
      cases r with
      | ok n w' =>
        cases n <;> simp only [Oper.quietUpon] at h1 h2
        case value u => exact h1.2.symm.trans h2.2
        case skip => exact h1.2.trans h2.2.symm
        case enter f args => exact calls_det h1.2 h2.2
      | halt x w' => simp only [Oper.quietUpon] at h1
    · rw [hw] at hw'; cases hw'
  · rcases h' with ⟨hw', _⟩ | ⟨_, rfl⟩
    · rw [hw] at hw'; cases hw'
    · rfl

/-- Heads in any order, the alloc listed already. -/
def headX (P : Program) (md : Region.Mode) (ops : Array Oper) (C : World → Prop) (n : Nat) (L : Array Bool → Act → Prop) : Nat → Array Bool → Act → Prop
  | 0, listed, a => L listed a
  | f + 1, listed, a => Region.ready md ops listed ≠ [] ∧ ∀ i ∈ Region.ready md ops listed, i < n ∧ qOp P ops C i (headX P md ops C n L f (listed.setIfInBounds i true)) a

theorem any_of_headX {n g : Nat} {L : Array Bool → Act → Prop} {Q : Exit → Act → World → Prop} (hL : ∀ listed a, L listed a → ∀ w, C w → wpAny P md ops Q g listed a w) :
    ∀ (f : Nat) (listed : Array Bool) (a : Act) (w : World), C w → headX P md ops C n L f listed a → wpAny P md ops Q (f + g) listed a w
  | 0, _, _, w, hw, h => by rw [Nat.zero_add]; exact hL _ _ h w hw
  | f + 1, listed, a, w, hw, h => by
    rw [Nat.add_right_comm]
    exact ⟨fun h0 => absurd h0 h.1, fun i hi => wpOp_of_qOp hw (fun a' w' hw' h' => any_of_headX hL f _ a' w' hw' h') (h.2 i hi).2⟩

/-- Heads 0 .. n - 1, the alloc n, the store n + 1. -/
def sinkX (md : Region.Mode) (ops : Array Oper) (n : Nat) : Bool :=
  Region.waitsFor md ops (n + 1) n && (List.range n).all fun i => Region.waitsFor md ops (n + 1) i || (List.range n).any fun j => decide (i < j) && Region.waitsFor md ops j i
structure InvX (md : Region.Mode) (ops : Array Oper) (n : Nat) (listed : Array Bool) : Prop where
  size : listed.size = ops.size
  closed : ∀ j oj, ops[j]? = some oj → listed.getD j false = true → ∀ e ∈ oj.after, Region.binds md e = true → listed.getD e.on false = true
  last : listed.getD (n + 1) true = false

theorem InvX.set {n i : Nat} {listed : Array Bool} (inv : InvX md ops n listed) (hi : i ∈ Region.ready md ops listed) (hin : i ≠ n + 1) : InvX md ops n (listed.setIfInBounds i true) := by
  obtain ⟨_, oi, hoi, hall⟩ := mem_ready.1 hi
  refine ⟨by simp [inv.size], fun j oj hj hl e he hb => ?_, by rw [getD_set_ne true hin]; exact inv.last⟩
  by_cases hij : i = j
  · subst hij
    have : oj = oi := Option.some.inj (hj.symm.trans hoi)
    subst this
    exact getD_set_true (hall e he hb)
  · rw [getD_set_ne false hij] at hl
    exact getD_set_true (inv.closed j oj hj hl e he hb)

theorem waits_of {n i : Nat} {listed : Array Bool} (h : Region.waitsFor md ops (n + 1) i = true) (hun : listed.getD i true = false) : n + 1 ∉ Region.ready md ops listed := by
  intro hr
  obtain ⟨oj, hoj, e, he, hb, hon⟩ := Region.waitsFor_spec h
  obtain ⟨_, ot, hot, hall⟩ := mem_ready.1 hr
  have : oj = ot := Option.some.inj (hoj.symm.trans hot)
  subst this
  have h2 := hall e he hb
  rw [hon, getD_both hun] at h2
  cases h2
theorem last_waits {n : Nat} {listed : Array Bool} (hs : sinkX md ops n = true) (hsz : ops.size = n + 2) (inv : InvX md ops n listed) :
    ∀ (d i : Nat), n - i = d → i < n → listed.getD i true = false → n + 1 ∉ Region.ready md ops listed := by
  intro d
  induction d using Nat.strongRecOn with
  | _ d ih =>
    intro i hd hi hun
    simp only [sinkX, Bool.and_eq_true] at hs
    have h1 := List.all_eq_true.1 hs.2 i (List.mem_range.2 hi)
    simp only [Bool.or_eq_true] at h1
    rcases h1 with h1 | h1
    · exact waits_of h1 hun
    · obtain ⟨j, hj, hj2⟩ := List.any_eq_true.1 h1
      simp only [Bool.and_eq_true, decide_eq_true_eq] at hj2
      have hjn := List.mem_range.1 hj
      obtain ⟨oj, hoj, e, he, hb, hon⟩ := Region.waitsFor_spec hj2.2
      cases hl : listed.getD j false with
      | true =>
        have h2 := inv.closed j oj hoj hl e he hb
        rw [hon, getD_both hun] at h2
        cases h2
      | false =>
        have hjs : j < listed.size := by rw [inv.size]; omega
        exact ih (n - j) (by omega) j rfl hjn (getD_in hjs hl)

theorem headX_take {n i : Nat} {oi : Oper} {v : Value} {L : Array Bool → Act → Prop} (hi : ops[i]? = some oi) (hsel : ∀ (j : Nat) (o : Oper) cs b, ops[j]? = some o → o.op ≠ .select cs b)
    (hs : sinkX md ops n = true) (hsz : ops.size = n + 2) (hin : i < n) (hL : ∀ listed a, L listed a → Region.ready md ops listed = [n + 1]) :
    ∀ (f : Nat) (listed : Array Bool) (a : Act), InvX md ops n listed → listed.getD n true = true →
      (∀ j oj, ops[j]? = some oj → j ≠ i → listed.getD j true = false → (∀ e ∈ oj.after, Region.binds md e = true → e.on ≠ i) → oi.apart ops oj = true) →
      i ∈ Region.ready md ops listed → YieldsIn P ops C oi v a →
      headX P md ops C n L f (listed.setIfInBounds i true) (a.put oi.dst v) → headX P md ops C n L (f + 1) listed a := by
  have lt : ∀ (listed : Array Bool), InvX md ops n listed → listed.getD n true = true → i ∈ Region.ready md ops listed → ∀ j ∈ Region.ready md ops listed, j < n := by
    intro listed inv hln hr j hj
    obtain ⟨hu, oj, hoj, _⟩ := mem_ready.1 hj
    have hjs : j < ops.size := (Array.getElem?_eq_some_iff.1 hoj).1
    have h1 : j ≠ n := fun e => by rw [e, hln] at hu; cases hu
    have h2 : j ≠ n + 1 := fun e => by rw [e] at hj; exact last_waits hs hsz inv _ i rfl hin (mem_ready.1 hr).1 hj
    omega
  intro f
  induction f with
  | zero =>
    intro listed a inv hln _ hr hy hH
    refine ⟨List.ne_nil_of_mem hr, fun j hj => ?_⟩
    have hjn := lt listed inv hln hr j hj
    by_cases hji : j = i
    · subst hji
      exact ⟨hjn, hy.qOp hi hH⟩
    · have h1 := ready_mono hj hji
      rw [hL _ _ hH] at h1
      have : j = n + 1 := by simpa using h1
      omega
  | succ f ih =>
    intro listed a inv hln hfree hr hy hH
    refine ⟨List.ne_nil_of_mem hr, fun j hj => ?_⟩
    have hjn := lt listed inv hln hr j hj
    by_cases hji : j = i
    · subst hji
      exact ⟨hjn, hy.qOp hi hH⟩
    obtain ⟨hjun, oj, hoj, hall⟩ := mem_ready.1 hj
    have hnot : ∀ e ∈ oj.after, Region.binds md e = true → e.on ≠ i := fun e he hb heq => by
      have h1 := hall e he hb
      rw [heq, getD_both (mem_ready.1 hr).1] at h1
      cases h1
    have hput := qOp_put hoj (hfree j oj hoj hji hjun hnot) (fun cs b => hsel i oi cs b hi) (fun cs b => hsel j oj cs b hoj) hy (hH.2 j (ready_mono hj hji)).2
    refine ⟨hjn, qOp_mono (fun a' h3 => ih (listed.setIfInBounds j true) a' (inv.set hj (by omega)) (by rw [getD_set_ne true (by omega)]; exact hln) (fun k ok hk hki hun hno => hfree k ok hk hki ?_ hno) (ready_mono hr (Ne.symm hji)) h3.1 ?_) hput⟩
    · by_cases hjk : j = k
      · subst hjk; exact hjun
      · rw [getD_set_ne true hjk] at hun; exact hun
    · rw [Array.setIfInBounds_comm _ _ hji]
      exact h3.2

/-- The heads in the text's order, and then the store alone. -/
def lexX (md : Region.Mode) (ops : Array Oper) (n : Nat) : Nat → Nat → Array Bool → Bool
  | 0, _, listed => Region.seqB md ops 1 (n + 1) listed
  | f + 1, k, listed => (Region.ready md ops listed).contains k && Region.free md ops listed k && lexX md ops n f (k + 1) (listed.setIfInBounds k true)
theorem seqB_one {k : Nat} {listed : Array Bool} (h : Region.seqB md ops 1 k listed = true) : Region.ready md ops listed = [k] := by
  simp only [Region.seqB, Bool.and_eq_true, decide_eq_true_eq] at h
  exact h.1

theorem headX_lex {n : Nat} {T : Act → Prop} (hsel : Region.noSelect ops = true) (hs : sinkX md ops n = true) (hsz : ops.size = n + 2) :
    ∀ (l : List Oper) (k : Nat) (listed : Array Bool) (a : Act), (∀ j, j < l.length → l[j]? = ops[k + j]?) → k + l.length = n → InvX md ops n listed → listed.getD n true = true →
    lexX md ops n l.length k listed = true → wpQuiet P ops C T l a →
    headX P md ops C n (fun listed' a' => Region.seqB md ops 1 (n + 1) listed' = true ∧ T a') l.length listed a
  | [], k, listed, a, _, hk, _, _, hB, h => ⟨by simpa [lexX] using hB, h⟩
  | o :: l, k, listed, a, hl, hk, inv, hln, hB, h => by
    have h0 : ops[k]? = some o := by simpa using (hl 0 (by simp)).symm
    simp only [List.length_cons, lexX, Bool.and_eq_true] at hB
    simp only [List.length_cons] at hk
    obtain ⟨⟨hr, hf⟩, hB'⟩ := hB
    have hr' : k ∈ Region.ready md ops listed := by simpa using hr
    have hq : qOp P ops C k (wpQuiet P ops C T l) a := by unfold qOp; simp only [h0]; exact h
    obtain ⟨v, hy, hK⟩ := yieldsIn_of_qOp h0 hq
    refine headX_take h0 (Region.noSelect_spec hsel) hs hsz (by omega) (fun listed' a' h' => seqB_one h'.1) l.length listed a inv hln (Region.free_spec h0 hf) hr' hy
      (headX_lex hsel hs hsz l (k + 1) _ _ (fun j hj => ?_) (by omega) (inv.set hr' (by omega)) (by rw [getD_set_ne true (by omega)]; exact hln) hB' hK)
    have := hl (j + 1) (by simp; omega)
    simpa [Nat.add_assoc, Nat.add_comm 1 j] using this

/-- The worlds that calls may leave which only make memory. -/
def ClW (W w : World) : Prop := Below W.heap.size W w

theorem any_box {n : Nat} {d : Tmp} {oA oS : Oper} {W0 : World} {zs : Array Value} {ty : TypeId} {Q : Exit → Act → World → Prop}
    (hA : ops[n]? = some oA) (hAd : oA.dst = some d) (hAw : ∀ a : Act, Region.wanted oA (yielded ops a.tmps) = true) (hAa : oA.after = #[])
    (hAr : ∀ (a : Act) (w : World), (execOp a.eval oA).run P w = .ok (.value (.pointer (some ⟨w.heap.size, 0, none⟩))) (w.alloc (.cells zs ty)))
    (hS : ops[n + 1]? = some oS) (hsel : ∀ (j : Nat) (o : Oper) cs b, ops[j]? = some o → o.op ≠ .select cs b) (hs : sinkX md ops n = true) (hsz : ops.size = n + 2)
    (hap : ∀ i oi, i < n → ops[i]? = some oi → oA.apart ops oi = true) :
    ∀ (f : Nat) (listed : Array Bool) (a : Act) (w : World), ClW W0 w → InvX md ops n listed → listed.getD n true = false →
      (∀ W1, Below W0.heap.size W0 W1 → ∀ g, W0.heap.size ≤ g → headX P md ops (ClW W1) n (fun listed' a' => Region.seqB md ops 1 (n + 1) listed' = true ∧ ∀ w', ClW W1 w' → Blk w' g ty zs.toList → wpList P ops Q [oS] a' w') f
        (listed.setIfInBounds n true) (a.put (some d) (.pointer (some ⟨g, 0, none⟩)))) →
      wpAny P md ops Q (f + 2) listed a w := by
  intro f
  induction f with
  | zero =>
    intro listed a w hw inv hun hG
    have hn : n ∈ Region.ready md ops listed := mem_ready.2 ⟨hun, oA, hA, by simp [hAa]⟩
    refine ⟨fun h0 => absurd h0 (List.ne_nil_of_mem hn), fun i hi => ?_⟩
    by_cases hin : i = n
    · subst hin
      unfold wpOp
      simp only [hA]
      rw [if_pos (hAw a)]
      left
      unfold Oper.wp
      rw [hAr]
      simp only [Oper.upon, hAd]
      exact any_of_headX (g := 1) (fun listed' a' hL w' hw' => wpAny_of_seq [oS] (i + 1) listed' a' w' (fun j => by cases j with | zero => simpa using hS.symm | succ j => (have : ops[i + 1 + (j + 1)]? = none := Array.getElem?_eq_none (by omega)); simp [this]) hL.1
        (hL.2 w' hw' ((Blk.made w zs ty).below hw'))) 0 _ _ _ (Below.refl _ _) (hG (w.alloc (.cells zs ty)) (hw.alloc hw.size _) w.heap.size hw.size)
    · have hi' := ready_mono hi hin
      have h1 := seqB_one (hG W0 (Below.refl _ _) _ (Nat.le_refl _)).1
      rw [h1] at hi'
      have : i = n + 1 := by simpa using hi'
      subst this
      simp only [sinkX, Bool.and_eq_true] at hs
      exact absurd hi (waits_of hs.1 hun)
  | succ f ih =>
    intro listed a w hw inv hun hG
    have hn : n ∈ Region.ready md ops listed := mem_ready.2 ⟨hun, oA, hA, by simp [hAa]⟩
    refine ⟨fun h0 => absurd h0 (List.ne_nil_of_mem hn), fun i hi => ?_⟩
    by_cases hin : i = n
    · subst hin
      unfold wpOp
      simp only [hA]
      rw [if_pos (hAw a)]
      left
      unfold Oper.wp
      rw [hAr]
      simp only [Oper.upon, hAd]
      exact any_of_headX (g := 1) (fun listed' a' hL w' hw' => wpAny_of_seq [oS] (i + 1) listed' a' w' (fun j => by cases j with | zero => simpa using hS.symm | succ j => (have : ops[i + 1 + (j + 1)]? = none := Array.getElem?_eq_none (by omega)); simp [this]) hL.1
        (hL.2 w' hw' ((Blk.made w zs ty).below hw'))) (f + 1) _ _ _ (Below.refl _ _) (hG (w.alloc (.cells zs ty)) (hw.alloc hw.size _) w.heap.size hw.size)
    · have hi' := ready_mono hi hin
      obtain ⟨hiun, oi, hoi, _⟩ := mem_ready.1 hi
      have hilt := ((hG W0 (Below.refl _ _) _ (Nat.le_refl _)).2 i hi').1
      have h0 := ((hG W0 (Below.refl _ _) _ (Nat.le_refl _)).2 i hi').2
      obtain ⟨v, hy, _⟩ := yieldsIn_of_qOp hoi h0
      obtain ⟨p1, p2, _⟩ := Oper.apart_spec (hap i oi hilt hoi)
      have same : ∀ (C : World → Prop) (u : Value) (q : Value), YieldsIn P ops C oi u (a.put (some d) q) → YieldsIn P ops C oi u a := fun C u q h =>
        h.of_same (execOp_put oi (fun cs b => hsel i oi cs b hoi) a (some d) q (fun d' hd' => p1 d' (hAd.trans hd'))).symm (wanted_put oi a (some d) q (fun d' hd' => p1 d' (hAd.trans hd'))).symm
      have hy' := same _ _ _ hy
      refine wpOp_of_qOp (C := ClW W0) (K := fun a' => a' = a.put oi.dst v) hw (fun a' w' hw' h' => ?_) (hy'.qOp hoi rfl)
      subst h'
      refine ih (listed.setIfInBounds i true) _ w' hw' (inv.set hi (by omega)) (by rw [getD_set_ne true hin]; exact hun) fun W1 hb g hg => ?_
      have h1 := ((hG W1 hb g hg).2 i hi').2
      obtain ⟨v', hy1, hK1⟩ := yieldsIn_of_qOp hoi h1
      have hv : v' = v := yields_det (C := ClW W1) (C' := ClW W0) (w := W1) (Below.refl _ _) hb (same _ _ _ hy1) hy'
      subst hv
      rw [Array.setIfInBounds_comm _ _ hin, Act.put_comm a v' _ (fun d' hd' => fun h => p2 d (by rw [hAd]) (by rw [hd', h]))]
      exact hK1

def boxB (md : Region.Mode) (ops : Array Oper) (n : Nat) : Bool :=
  Region.noSelect ops && decide (ops.size = n + 2) && sinkX md ops n && lexX md ops n n 0 ((Array.replicate ops.size false).setIfInBounds n true) &&
  match ops[n]? with
  | some oA => (List.range n).all fun i => match ops[i]? with
    | some oi => oA.apart ops oi
    | none => true
  | none => false

theorem region_box_tail {id : Nat} {Q : Exit → Act → World → Prop} {a : Act} {w : World} {l : List Oper} {d : Tmp} {ty t0 : TypeId} {pos : String} {oS : Oper} {zs : Array Value} (n : Nat) (hm : P.follows .mixedOrders = true) (hB : boxB .any l.toArray n = true)
    (hl : l.drop n = [{ dst := some d, op := .alloc ty, type := t0, pos := pos, after := #[], guard := none }, oS])
    (hAr : ∀ (a : Act) (w : World), (execOp a.eval { dst := some d, op := .alloc ty, type := t0, pos := pos, after := #[], guard := none }).run P w = .ok (.value (.pointer (some ⟨w.heap.size, 0, none⟩))) (w.alloc (.cells zs ty)))
    (h : ∀ W1 g, Below w.heap.size w W1 → w.heap.size ≤ g → wpQuiet P l.toArray (ClW W1) (fun a' => ∀ w', ClW W1 w' → Blk w' g ty zs.toList → wpList P l.toArray Q [oS] a' w') (l.take n) (a.put (some d) (.pointer (some ⟨g, 0, none⟩)))) :
    (Code.region id l.toArray true).wp P Q a w := by
  simp only [boxB, Bool.and_eq_true, decide_eq_true_eq] at hB
  obtain ⟨⟨⟨⟨hsel, hsz⟩, hs⟩, hlex⟩, hap⟩ := hB
  have hA : l.toArray[n]? = some { dst := some d, op := .alloc ty, type := t0, pos := pos, after := #[], guard := none } := by
    have := congrArg (fun r => r[0]?) hl
    simpa using this
  have hS : l.toArray[n + 1]? = some oS := by
    have := congrArg (fun r => r[1]?) hl
    simpa using this
  rw [hA] at hap
  have hsz' : l.length = n + 2 := by simpa using hsz
  have htl : (l.take n).length = n := by simp; omega
  have inv0 : InvX .any l.toArray n (Array.replicate l.toArray.size false) :=
    ⟨by simp, fun j _ _ hj => (by rw [getD_replicate_false] at hj; cases hj), getD_in (by simp; omega) (getD_replicate_false _ _)⟩
  have hun0 : (Array.replicate l.toArray.size false).getD n true = false := getD_in (by simp; omega) (getD_replicate_false _ _)
  have hn : n ∈ Region.ready .any l.toArray (Array.replicate l.toArray.size false) := mem_ready.2 ⟨hun0, _, hA, by simp⟩
  have inv1 := inv0.set hn (by omega)
  have hln : ((Array.replicate l.toArray.size false).setIfInBounds n true).getD n true = true := by
    rw [Array.getD_eq_getD_getElem?, Array.getElem?_setIfInBounds_self]
    split <;> rfl
  have hfin := any_box (P := P) (md := .any) (Q := Q) (W0 := w.drew) hA rfl (fun _ => rfl) rfl hAr hS (Region.noSelect_spec hsel) hs hsz (fun i oi hi hoi => by
      have := List.all_eq_true.1 hap i (List.mem_range.2 hi)
      simpa [hoi] using this) n (Array.replicate l.toArray.size false) a w.drew (Below.refl _ _) inv0 hun0 (fun W1 hb g hg => by
      have hx := headX_lex (md := .any) (n := n) hsel hs hsz (l.take n) 0 _ _ (fun j hj => by rw [htl] at hj; simp [hj]) (by simpa using htl) inv1 hln (by rw [htl]; exact hlex) (h W1 g (below_drew.trans (hb.mono (by simp))) hg)
      rw [htl] at hx
      exact hx)
  rw [← hsz] at hfin
  exact wp_region_any hm hfin

end

theorem cl_worlds (w : World) : ∃ (ι : Type) (W : ι → World), ClW w = (fun w' => ∃ i, w' = W i) ∧ Nonempty ι ∧ (∀ i w', Below (W i).heap.size (W i) w' → ∃ j, w' = W j) ∧ ∀ i, Below w.heap.size w (W i) :=
  ⟨{ v : World // Below w.heap.size w v }, Subtype.val, funext fun v => propext ⟨fun h => ⟨⟨v, h⟩, rfl⟩, fun ⟨i, h⟩ => h ▸ i.2⟩, ⟨⟨w, Below.refl _ _⟩⟩, fun i w' h => ⟨⟨w', i.2.trans (h.mono i.2.size)⟩, rfl⟩, fun i => i.2⟩

end Go.Proofs.Ytoioafadenniiaa
