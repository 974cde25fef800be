/- Both strips by threes return the same. -/
import Derived.Test.YtoioafadenniiaaStripI
import Derived.Test.YtoioafadenniiaaSStripW
namespace Go.Proofs.Ytoioafadenniiaa
open Go.RowKit

theorem si_ks {xs ys : List Int} {n i j : Nat} (hn : xs.length = n) (hi : i < n) (hj : j < n) (hne : gi xs i ≠ gi xs j) : ∀ (d k : Nat) (fs : List Rat), k + d = n → SI xs ys fs i j k → ∃ fs', SI xs ys fs' i j n
  | 0, k, fs, hk, h => ⟨fs, by rw [Nat.add_zero] at hk; rw [← hk]; exact h⟩
  | d + 1, k, fs, hk, h => by
    by_cases hs : k = i ∨ k = j ∨ ¬ Btw xs i j k
    · exact si_ks hn hi hj hne d (k + 1) fs (by omega) (h.skip hs)
    · have hb : Btw xs i j k := Classical.not_not.1 fun hb => hs (.inr (.inr hb))
      exact si_ks hn hi hj hne d (k + 1) _ (by omega) (h.add (by omega) (by omega) (by omega) hne hb)
theorem si_js {xs ys : List Int} {n i : Nat} (hn : xs.length = n) (hi : i < n) : ∀ (d j : Nat) (fs : List Rat), j + d = n → SI xs ys fs i j 0 → ∃ fs', SI xs ys fs' i n 0
  | 0, k, fs, hk, h => ⟨fs, by rw [Nat.add_zero] at hk; rw [← hk]; exact h⟩
  | d + 1, j, fs, hk, h => by
    by_cases he : gi xs i = gi xs j
    · exact si_js hn hi d (j + 1) _ (by omega) (h.same (by omega) (by omega) he)
    · obtain ⟨fs', h'⟩ := si_ks hn hi (by omega) he n 0 fs (by omega) h
      exact si_js hn hi d (j + 1) fs' (by omega) (h'.col hn he)
theorem si_is {xs ys : List Int} {n : Nat} (hn : xs.length = n) : ∀ (d i : Nat) (fs : List Rat), i + d = n → SI xs ys fs i 0 0 → ∃ fs', SI xs ys fs' n 0 0
  | 0, k, fs, hk, h => ⟨fs, by rw [Nat.add_zero] at hk; rw [← hk]; exact h⟩
  | d + 1, i, fs, hk, h => by
    obtain ⟨fs', h'⟩ := si_js hn (show i < n by omega) n 0 fs (by omega) h
    exact si_is hn d (i + 1) fs' (by omega) (h'.row hn)
/-- There is a greatest. -/
theorem strip_top (xs ys : List Int) : ∃ m, Top (StR xs ys) m := by
  obtain ⟨fs, h⟩ := si_is (xs := xs) (ys := ys) rfl xs.length 0 [0] (by omega) (si_start xs ys)
  exact ⟨_, h.top rfl rfl⟩

theorem strip_m (b o c b' o' c' : Nat) (xs ys : List Int) (m : Rat) (w : World) (h : RowI w b o xs) (h' : RowI w b' o' ys) (hcb : clB xs ys = true) (ht : Top (StR xs ys) m) :
    Calls Try.prog 19 #[.slice (some ⟨b, o, none⟩) xs.length c, .slice (some ⟨b', o', none⟩) ys.length c'] w
      fun e w' => e = .returned (.tuple #[.agg #[.int .i64 (up m), .int .i64 (dn m)], .bool true]) ∧ Below w.heap.size w w' := by
  refine (strip_yes b o c b' o' c' xs ys w h h' (cl_of hcb) hcb).mono ?_
  rintro e w' ⟨m', hm, rfl, hb⟩
  rw [hm.eq ht fun _ => Iff.rfl]
  exact ⟨rfl, hb⟩
theorem sstrip_m (b o c b' o' c' : Nat) (xs ys : List Int) (m : Rat) (w : World) (h : RowI w b o xs) (h' : RowI w b' o' ys) (hcb : clB xs ys = true) (ht : Top (StR xs ys) m) :
    Calls Try.prog 18 #[.slice (some ⟨b, o, none⟩) xs.length c, .slice (some ⟨b', o', none⟩) ys.length c'] w
      fun e w' => e = .returned (.tuple #[.agg #[.int .i64 (up m), .int .i64 (dn m)], .bool true]) ∧ Below w.heap.size w w' := by
  refine (sstrip_yes b o c b' o' c' xs ys w h h' (cl_of hcb) hcb).mono ?_
  rintro e w' ⟨m', hm, rfl, hb⟩
  rw [hm.eq ht fun _ => Iff.rfl]
  exact ⟨rfl, hb⟩

/-- What both return: the numbers of the greatest, or zeros. -/
def StV (xs ys : List Int) (u d : Int) (f : Bool) : Prop := (f = false ∧ clB xs ys = false ∧ u = 0 ∧ d = 0) ∨ (f = true ∧ clB xs ys = true ∧ ∃ m, Top (StR xs ys) m ∧ u = up m ∧ d = dn m)
theorem stv_some (xs ys : List Int) : ∃ u d f, StV xs ys u d f := by
  cases h : clB xs ys with
  | false => exact ⟨0, 0, false, .inl ⟨rfl, h, rfl, rfl⟩⟩
  | true =>
    obtain ⟨m, hm⟩ := strip_top xs ys
    exact ⟨_, _, true, .inr ⟨rfl, h, m, hm, rfl, rfl⟩⟩
theorem strip_all (b o c b' o' c' : Nat) (xs ys : List Int) (w : World) (u d : Int) (f : Bool) (hv : StV xs ys u d f) (h : RowI w b o xs) (h' : RowI w b' o' ys) (hm : xs.length ≤ 1099511627776) (hm' : ys.length ≤ 1099511627776) :
    Calls Try.prog 19 #[.slice (some ⟨b, o, none⟩) xs.length c, .slice (some ⟨b', o', none⟩) ys.length c'] w
      fun e w' => e = .returned (.tuple #[.agg #[.int .i64 u, .int .i64 d], .bool f]) ∧ Below w.heap.size w w' := by
  rcases hv with ⟨rfl, hc, rfl, rfl⟩ | ⟨rfl, hc, m, ht, rfl, rfl⟩
  · exact strip_no b o c b' o' c' xs ys w h h' hm hm' hc
  · exact strip_m b o c b' o' c' xs ys m w h h' hc ht
theorem sstrip_all (b o c b' o' c' : Nat) (xs ys : List Int) (w : World) (u d : Int) (f : Bool) (hv : StV xs ys u d f) (h : RowI w b o xs) (h' : RowI w b' o' ys) (hm : xs.length ≤ 1099511627776) (hm' : ys.length ≤ 1099511627776) :
    Calls Try.prog 18 #[.slice (some ⟨b, o, none⟩) xs.length c, .slice (some ⟨b', o', none⟩) ys.length c'] w
      fun e w' => e = .returned (.tuple #[.agg #[.int .i64 u, .int .i64 d], .bool f]) ∧ Below w.heap.size w w' := by
  rcases hv with ⟨rfl, hc, rfl, rfl⟩ | ⟨rfl, hc, m, ht, rfl, rfl⟩
  · exact sstrip_no b o c b' o' c' xs ys w h h' hm hm' hc
  · exact sstrip_m b o c b' o' c' xs ys m w h h' hc ht

end Go.Proofs.Ytoioafadenniiaa
