/- The reference's reader of a code: each number that it picks lies in its range, and it changes itself alone. -/
import Derived.Test.YtpcnjkgoehepaaaToInt
import Derived.Test.YtpcnjkgoehepaaaTail
import Derived.OpenShut
import Derived.Deep.DeepCutAuto
namespace Go.Proofs.Ytpcnjkgoehepaaa
open Go.RowKit Go.ChangeShapes

/-- A row of n bytes, in blocks before g. -/
def CodeB (w : World) (g : Nat) (ad : Option Addr) (n : Nat) : Prop :=
  n = 0 ∨ ∃ b o, ad = some ⟨b, o, none⟩ ∧ b < g ∧ ∀ k, k < n → ∃ v : Int, 0 ≤ v ∧ v ≤ 255 ∧ w.cell? ⟨b, o + k, none⟩ = some (.int .u8 v)
theorem CodeB.grown {w w' : World} {g : Nat} {ad : Option Addr} {n : Nat} (h : CodeB w g ad n) (hb : w.grownBy w' (some g)) (hg : g ≤ w.heap.size) : CodeB w' g ad n := by
  rcases h with h | ⟨b, o, h1, h2, h3⟩
  · exact .inl h
  · refine .inr ⟨b, o, h1, h2, fun k hk => ?_⟩
    obtain ⟨v, v0, v1, v2⟩ := h3 k hk
    refine ⟨v, v0, v1, ?_⟩
    rw [← v2]
    have := hb.block b (by omega) (fun e => by have := Option.some.inj e; omega)
    exact World.cell?_of_block this
theorem codeB_of {w : World} {a : Option Addr} {len cap : Nat} {zs : List Int} (h : (a = none ∧ len = 0 ∧ cap = 0 ∧ zs = []) ∨
    ∃ x, a = some x ∧ len ≤ cap ∧ cap ≤ maxLen ∧ zs.length = cap ∧ (∀ i, i < zs.length → w.cell? (x.add i) = some (.int .u8 (zs.getD i 0))) ∧ ∀ n ∈ zs, (Lit.int .u8 n).wf = true) :
    CodeB w w.heap.size a len ∧ len ≤ 9223372036854775807 ∧ len ≤ cap := by
  rcases h with ⟨rfl, rfl, rfl, rfl⟩ | ⟨x, rfl, h1, h2, h3, h4, h5⟩
  · exact ⟨.inl rfl, by omega, by omega⟩
  · refine ⟨?_, by unfold maxLen at h2; omega, h1⟩
    by_cases h0 : len = 0
    · exact .inl h0
    · obtain ⟨b, off, rfl, hc⟩ := ints_at h4 (by omega)
      refine .inr ⟨b, off, rfl, World.block_lt_of_cell? w _ (hc 0 (by omega)), fun k hk => ⟨zs.getD k 0, ?_, ?_, hc k (by omega)⟩⟩
      · have := h5 (zs.getD k 0) (by simp [show k < zs.length by omega])
        simp [Lit.wf] at this
        rw [List.getD_eq_getElem?_getD]
        exact this.1
      · have := h5 (zs.getD k 0) (by simp [show k < zs.length by omega])
        simp [Lit.wf] at this
        rw [List.getD_eq_getElem?_getD]
        exact this.2

theorem xor_in (x y : Int) (h1 : 0 ≤ x) (h2 : x < 4611686018427387904) (h3 : 0 ≤ y) (h4 : y < 4611686018427387904) : 0 ≤ bits .xor .i64 x y ∧ bits .xor .i64 x y < 4611686018427387904 := by
  obtain ⟨a, rfl⟩ := Int.eq_ofNat_of_zero_le h1
  obtain ⟨c, rfl⟩ := Int.eq_ofNat_of_zero_le h3
  have ha : a < 2 ^ 62 := by omega
  have hc : c < 2 ^ 62 := by omega
  have hx := Nat.xor_lt_two_pow ha hc
  have e : (BitVec.ofInt 64 (a : Int) ^^^ BitVec.ofInt 64 (c : Int)).toNat = a ^^^ c := by
    rw [BitVec.toNat_xor, BitVec.ofInt_natCast, BitVec.ofInt_natCast, BitVec.toNat_ofNat, BitVec.toNat_ofNat, Nat.mod_eq_of_lt (by omega), Nat.mod_eq_of_lt (by omega)]
  have e2 : bits .xor .i64 (a : Int) (c : Int) = IntKind.i64.wrap ((a ^^^ c : Nat) : Int) := by
    rw [← e]
    rfl
  rw [e2, IntWalk.i64_in _ (by omega)]
  omega

/-- A reader at block g, that has picked p numbers. -/
structure Rdr (w : World) (g : Nat) (ad : Option Addr) (n c : Nat) (p : Int) : Prop where
  blk : Blk w g 47 [.slice ad n c, .int .i64 p]
  code : CodeB w g ad n
  len : n ≤ 2000
  p0 : 0 ≤ p
theorem Rdr.below {w w' : World} {g n c : Nat} {ad : Option Addr} {p : Int} (h : Rdr w g ad n c p) (hb : Below w.heap.size w w') : Rdr w' g ad n c p :=
  ⟨h.blk.below hb, h.code.grown ⟨hb.os, hb.tape, hb.output, hb.size, fun k hk _ => hb.block k hk⟩ (Nat.le_of_lt h.blk.lt), h.len, h.p0⟩
theorem Rdr.set {w : World} {g n c : Nat} {ad : Option Addr} {p : Int} (h : Rdr w g ad n c p) : Rdr (w.setCell ⟨g, 1, none⟩ (.int .i64 (p + 1))) g ad n c (p + 1) :=
  ⟨h.blk.set 1 _, h.code.grown (grownBy_set (grownBy_refl w (some g)) _) (Nat.le_of_lt h.blk.lt), h.len, by have := h.p0; omega⟩

theorem grown_drewN {w w' : World} {g : Option Nat} (h : w.grownBy w' g) : ∀ n, w.grownBy (w'.drewN n) g
  | 0 => h
  | n + 1 => by
    have ih := grown_drewN h n
    exact ⟨ih.os, ih.tape, ih.output, ih.size, ih.block⟩

set_option maxHeartbeats 4000000 in
set_option maxRecDepth 100000 in
theorem pick_any (g n c : Nat) (ad : Option Addr) (p m : Int) (w : World) (h : Rdr w g ad n c p) (hp : p < 1000000) (hm : 1 ≤ m) (hm2 : m ≤ 1048576) :
    Calls Try.prog 23 #[.pointer (some ⟨g, 0, none⟩), .int .i64 m] w
      fun e w' => ∃ v : Int, e = .returned (.int .i64 v) ∧ 0 ≤ v ∧ v < m ∧ Rdr w' g ad n c (p + 1) ∧ w.grownBy w' (some g) := by
  have hp0 := h.p0
  have hl := h.len
  have hset := h.set
  have c1 := h.blk.cell (j := 0) rfl
  have c2 := h.blk.cell (j := 1) rfl
  have f2 := h.blk.frozen 1
  have hlt := h.blk.lt
  have c1' := hset.blk.cell (j := 0) rfl
  have c2' := hset.blk.cell (j := 1) rfl
  have q1 : IntKind.i64.wrap (p + 1) = p + 1 := IntWalk.i64_in _ (by omega)
  have q2 : IntKind.i64.wrap (p + 1 - 1) = p := by rw [IntWalk.i64_in _ (by omega)]; omega
  have t1 : decide (m < 1) = false := by simp; omega
  have HS := Lib.hid hset
  clear hset h
  by_cases hn : n = 0
  · subst hn
    go_enter Try.func23, Try.ntmps23
    go_wp2
    go_ret
    exact ⟨0, rfl, by omega, by omega, HS.out, grownBy_set (grownBy_refl w (some g)) _⟩
  · have t2 : ((n : Int) == 0) = false := by simp; omega
    obtain ⟨b, o, rfl, hbg, hcells⟩ : ∃ b o, ad = some ⟨b, o, none⟩ ∧ b < g ∧ ∀ k, k < n → ∃ v : Int, 0 ≤ v ∧ v ≤ 255 ∧ (w.setCell ⟨g, 1, none⟩ (.int .i64 (p + 1))).cell? ⟨b, o + k, none⟩ = some (.int .u8 v) := by
      rcases HS.out.code with h | h
      · exact absurd h hn
      · exact h
    obtain ⟨k, rfl⟩ : ∃ k : Nat, p = k := ⟨p.toNat, by omega⟩
    by_cases hk : k < n
    · obtain ⟨v, v0, v1, hv⟩ := hcells k hk
      go_enter Try.func23, Try.ntmps23
      go_wp2
      go_ret
      exact ⟨v % m, rfl, Int.emod_nonneg _ (by omega), Int.emod_lt_of_pos _ (by omega), HS.out, grownBy_set (grownBy_refl w (some g)) _⟩
    · have hnp : 0 < n := by omega
      obtain ⟨i1, hi1⟩ : ∃ i1, k % n = i1 := ⟨_, rfl⟩
      obtain ⟨i2, hi2⟩ : ∃ i2, (k * 7 + 3) % n = i2 := ⟨_, rfl⟩
      have hl1 : i1 < n := by rw [← hi1]; exact Nat.mod_lt _ hnp
      have hl2 : i2 < n := by rw [← hi2]; exact Nat.mod_lt _ hnp
      obtain ⟨v, v0, v1, hv⟩ := hcells i1 hl1
      obtain ⟨u, u0, u1, hu⟩ := hcells i2 hl2
      have q3 : (k : Int).tmod (n : Int) = (i1 : Int) := by rw [← hi1]; rfl
      have q4 : IntKind.i64.wrap ((k : Int) * 7) = (k : Int) * 7 := IntWalk.i64_in _ (by omega)
      have q5 : IntKind.i64.wrap ((k : Int) * 7 + 3) = (k : Int) * 7 + 3 := IntWalk.i64_in _ (by omega)
      have q6 : ((k : Int) * 7 + 3).tmod (n : Int) = (i2 : Int) := by rw [← hi2]; rfl
      have q7 : IntKind.i64.wrap (v * 131) = v * 131 := IntWalk.i64_in _ (by omega)
      have q8 : IntKind.i64.wrap (u * 1117) = u * 1117 := IntWalk.i64_in _ (by omega)
      have q9 : IntKind.i64.wrap (v * 131 + u * 1117) = v * 131 + u * 1117 := IntWalk.i64_in _ (by omega)
      have q10 : IntKind.i64.wrap ((k : Int) * 29) = (k : Int) * 29 := IntWalk.i64_in _ (by omega)
      have q11 : IntKind.i64.wrap (v * 131 + u * 1117 + (k : Int) * 29) = v * 131 + u * 1117 + (k : Int) * 29 := IntWalk.i64_in _ (by omega)
      obtain ⟨dk, hdk⟩ : ∃ dk, (k : Int) / (n : Int) = dk := ⟨_, rfl⟩
      have d0 : 0 ≤ dk := by rw [← hdk]; exact Int.ediv_nonneg (by omega) (by omega)
      have d1 : dk ≤ k := by rw [← hdk]; exact Int.ediv_le_self _ (by omega)
      have q12 : IntKind.i64.wrap dk = dk := IntWalk.i64_in _ (by omega)
      have q13 : IntKind.i64.wrap (dk * 53) = dk * 53 := IntWalk.i64_in _ (by omega)
      have q14 : IntKind.i64.wrap (v * 131 + u * 1117 + (k : Int) * 29 + dk * 53) = v * 131 + u * 1117 + (k : Int) * 29 + dk * 53 := IntWalk.i64_in _ (by omega)
      have hx0 : 0 ≤ v * 131 + u * 1117 + (k : Int) * 29 + dk * 53 := by omega
      have hx1 : v * 131 + u * 1117 + (k : Int) * 29 + dk * 53 < 1000000000000 := by omega
      have t3 : decide ((k : Int) < (n : Int)) = false := by simp; omega
      have hnn : (n : Int) ≠ 0 := by omega
      have w1 : IntKind.i64.wrap (v : Int) = v := IntWalk.i64_in _ (by omega)
      have w2 : IntKind.i64.wrap (u : Int) = u := IntWalk.i64_in _ (by omega)
      go_enter Try.func23, Try.ntmps23
      go_upto_region 7 with fail
      go_quiet (fail)
      generalize v * 131 + u * 1117 + (k : Int) * 29 + dk * 53 = x at *
      have hx := xor_in x (x / 64) hx0 (by omega) (by omega) (by omega)
      go_wp2
      go_ret
      exact ⟨_, rfl, Int.emod_nonneg _ (by omega), Int.emod_lt_of_pos _ (by omega), HS.out.below (Below.drewN (Below.refl _ _) _), grown_drewN (grownBy_set (grownBy_refl w (some g)) _) _⟩

/-- One of a list's numbers, and its reader. -/
theorem one_any (g n c b o cl : Nat) (ad : Option Addr) (p : Int) (xs : List Int) (w : World) (h : Rdr w g ad n c p) (hx : RowI w b o xs) (hbg : b ≠ g) (hp : p < 1000000) (hl : 1 ≤ xs.length) (hl2 : xs.length ≤ 1048576) :
    Calls Try.prog 22 #[.pointer (some ⟨g, 0, none⟩), .slice (some ⟨b, o, none⟩) xs.length cl] w
      fun e w' => ∃ k : Nat, k < xs.length ∧ e = .returned (.int .i64 (gi xs k)) ∧ Rdr w' g ad n c (p + 1) ∧ w.grownBy w' (some g) := by
  have H := Lib.hid h
  have HX := Lib.hid hx
  have hbl := hx.blk
  clear h hx
  go_enter Try.func22, Try.ntmps22
  go_wp2_with (go_at_call 23; refine (pick_any g n c ad p xs.length _ H.out hp (by omega) (by omega)).mono ?_; rintro e w1 ⟨v, rfl, v0, v1, hr, hg⟩; obtain ⟨k, rfl⟩ : ∃ k : Nat, v = k := ⟨v.toNat, by omega⟩; have hk : k < xs.length := (by omega); have ck : w1.cell? ⟨b, o + k, none⟩ = some (.int .i64 (gi xs k)) := ((World.cell?_of_block (hg.block b hbl (fun e => hbg (Option.some.inj e)))).trans (HX.out.cell k hk)))
  go_ret
  exact ⟨k, hk, rfl, hr, hg⟩

theorem newReader_any (ad : Option Addr) (n c : Nat) (w : World) (h : CodeB w w.heap.size ad n) (hn : n ≤ 9223372036854775807) (hc : n ≤ c) :
    Calls Try.prog 21 #[.slice ad n c] w fun e w' => ∃ g n' c', e = .returned (.pointer (some ⟨g, 0, none⟩)) ∧ g = w.heap.size ∧ Rdr w' g ad n' c' 0 ∧ Below w.heap.size w w' := by
  by_cases hl : 2000 < n
  · have h0 : n ≠ 0 := by omega
    obtain ⟨b, o, rfl, h2, h3⟩ : ∃ b o, ad = some ⟨b, o, none⟩ ∧ b < w.heap.size ∧ ∀ k, k < n → ∃ v : Int, 0 ≤ v ∧ v ≤ 255 ∧ w.cell? ⟨b, o + k, none⟩ = some (.int .u8 v) := by
      rcases h with h | h
      · exact absurd h h0
      · exact h
    have hc2 : 2000 ≤ c := by omega
    go_enter Try.func21, Try.ntmps21
    go_wp2
    go_ret
    refine ⟨_, 2000, c, rfl, rfl, ⟨Blk.made w #[.slice (some ⟨b, o, none⟩) 2000 c, .int .i64 0] 47, .inr ⟨b, o, rfl, h2, fun k hk => ?_⟩, by omega, by omega⟩, below_alloc⟩
    obtain ⟨v, v0, v1, hv⟩ := h3 k (by omega)
    exact ⟨v, v0, v1, keepC below_alloc hv⟩
  · go_enter Try.func21, Try.ntmps21
    go_wp2
    go_ret
    refine ⟨_, n, c, rfl, rfl, ⟨Blk.made w #[.slice ad n c, .int .i64 0] 47, ?_, by omega, by omega⟩, below_alloc⟩
    rcases h with h | ⟨b, o, h1, h2, h3⟩
    · exact .inl h
    · refine .inr ⟨b, o, h1, h2, fun k hk => ?_⟩
      obtain ⟨v, v0, v1, hv⟩ := h3 k hk
      exact ⟨v, v0, v1, keepC below_alloc hv⟩

end Go.Proofs.Ytpcnjkgoehepaaa
