/- Plain facts: the keys of a map, collected in any order, by size. No walk here. -/
import Derived.Test.YtpcnjkgoehepaaaMapP
import Derived.Test.YtpcnjkgoehepaaaAppS
namespace Go.Proofs.Ytpcnjkgoehepaaa

structure Col (f : Int → Int) (left : Lit → Bool) (ss : List Int) : Prop where
  nd : ss.Nodup
  mem : ∀ t : Int, t ∈ ss ↔ f t ≠ 0 ∧ left (.int .i64 t) = false
theorem Col.start {D : DataW Unit} {f : Int → Int} (h : Rd D f) : Col f (Maps.has D) [] :=
  ⟨List.nodup_nil, fun t => by rw [h.has]; simp⟩
theorem Col.step {f : Int → Int} {left : Lit → Bool} {ss : List Int} {s : Int} (h : Col f left ss) (hs : left (.int .i64 s) = true) (hf : f s ≠ 0) : Col f (fun z => left z && !z.sameKey (.int .i64 s)) (ss ++ [s]) := by
  refine ⟨?_, fun t => ?_⟩
  · rw [List.nodup_append]
    refine ⟨h.nd, by simp, fun a ha b hb e => ?_⟩
    have hb' : b = s := by simpa using hb
    have := ((h.mem a).1 ha).2
    rw [e, hb', hs] at this
    cases this
  · rw [List.mem_append, h.mem]
    by_cases e : t = s
    · subst e
      simp [hf, Lit.sameKey]
    · simp [Lit.sameKey, e]
theorem Col.srt {f : Int → Int} {left : Lit → Bool} {ss : List Int} (h : Col f left ss) (hl : ∀ k, left k = false) {L : List (Int × Int)} (hL : AscP L) (hm : ∀ t, t ∈ fS L ↔ f t ≠ 0) : Go.Proofs.Ytpcnjkgoehepaaa.srt ss = fS L := by
  have hp := srt_perm ss
  have hnd : (Go.Proofs.Ytpcnjkgoehepaaa.srt ss).Nodup := hp.nodup_iff.2 h.nd
  refine asc_eq _ _ ?_ ?_ fun t => ?_
  · refine List.Pairwise.imp₂ (R := fun a b => a ≤ b) (S := fun a b => a ≠ b) (fun a b h1 h2 => ?_) (srt_up ss) hnd
    omega
  · rw [fS, List.pairwise_map]
    exact hL.asc
  · rw [hp.mem_iff, h.mem, hm, hl]
    simp
structure Dr (x : Nat → Int) (n : Nat) (L : List (Int × Int)) : Prop where
  asc : AscP L
  mem : ∀ t, t ∈ fS L ↔ Ct x n n t ≠ 0
  cnt : ∀ j, j < L.length → gi (sS L) j = Ct x n n (gi (fS L) j)
  pos : 1 ≤ L.length
theorem dr_all (x : Nat → Int) {n : Nat} (hn1 : 1 ≤ n) (hn4 : n ≤ 4) : Dr x n (dF x n n 0 []) := by
  have ha : AscP (dF x n n 0 []) := dF_asc x n n 0 [] ⟨List.Pairwise.nil, fun p hp => by simp at hp⟩
  have hc : ∀ t, cP t (dF x n n 0 []) = Ct x n n t := fun t => by rw [cP_dF]; simp [cP]
  refine ⟨ha, fun t => ?_, fun j hj => ?_, ?_⟩
  · have h1 := cP_key (t := t) ha
    rw [hc] at h1
    have h2 := Ct_bd x n hn4 n t
    show t ∈ (dF x n n 0 []).map Prod.fst ↔ _
    rw [← h1]
    omega
  · have h1 : sS (dF x n n 0 []) = (fS (dF x n n 0 [])).map fun t => cP t (dF x n n 0 []) := snd_cP ha
    have hj1 : j < (sS (dF x n n 0 [])).length := by rw [sS_length]; exact hj
    have hj2 : j < (fS (dF x n n 0 [])).length := by rw [fS_length]; exact hj
    rw [gi_eq hj1, gi_eq hj2]
    simp only [h1, List.getElem_map]
    exact hc _
  · have h1 := tS_dF x n n 0 []
    refine Nat.one_le_iff_ne_zero.2 fun e => ?_
    rw [List.eq_nil_of_length_eq_zero e] at h1
    have h2 : (0 : Int) < (n : Int) ^ n := Int.pow_pos (by omega)
    simp [tS] at h1
    omega

end Go.Proofs.Ytpcnjkgoehepaaa
