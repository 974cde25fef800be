/- slices.Grow of nil, slices.Concat of two rows. -/
import Derived.Test.YtpcnjkgoehepaaaAppS
import Derived.Test.YtpcnjkgoehepaaaToInt
import Derived.Test.YtpcnjkgoehepaaaBlk
import Derived.Lib.AppendZerosOnto
import Derived.Deep.AppendLies
namespace Go.Proofs.Ytpcnjkgoehepaaa
open Go.RowKit

set_option maxHeartbeats 4000000 in
theorem growI_nil (n : Nat) (w : World) (h1 : 1 ≤ n) (hn : n ≤ 1000) :
    Calls Try.prog 62 #[.slice none 0 0, .int .i64 n] w fun e w' => ∃ v, e = .returned v ∧ OwnI w' w.heap.size v 0 [] ∧ Below w.heap.size w w' := by
  obtain ⟨i0, hi, hz0, hz1, hz2⟩ := info_parts infoI
  have hrz : ∀ ty, (Builtin.append_ #[23, 3] ty #[.slice none 0 0, .int .i64 n]).run Try.prog w =
      .ok (.slice (some ⟨w.heap.size, 0, none⟩) n (grownCap w n 0 3)) (w.drew.alloc (.cells ((#[] : Array Value) ++ Builtin.zeroCells (Value.int .i64 0).cells n ++ Builtin.zeroCells (Value.int .i64 0).cells (grownCap w n 0 3 - n)) 3)) := fun ty => by
    have h := Lib.run_append_grow_zeros w 23 3 ty 3 i0 (.int .i64 0) .i64 .i64 Try.underlying23 Try.underlying3 hi hz0 none 0 0 [] (run_firstCells_none w.drew i0.size 0 0 0) n (by omega) (by omega) (by omega) (by omega) (by rw [hz2]; omega)
      (growslice_fits (by omega) (by rw [hz2]; omega))
    rw [Nat.zero_add] at h
    exact h
  have hGn : n ≤ grownCap w n 0 3 := grownCap_ge w _ _ _
  have hG := grownCap_le_maxLen w n 0 3 (by unfold maxLen; omega)
  obtain ⟨G, hGe⟩ : ∃ G, G = grownCap w n 0 3 := ⟨_, rfl⟩
  rw [← hGe] at hrz hGn hG
  have hG63 : G ≤ 9223372036854775807 := by unfold maxLen at hG; omega
  have HG := Lib.hid hG
  clear hGe hG hi hz0 hz1 hz2
  have q1 : (0 : Int) < (n : Int) := by omega
  go_enter Try.func62, Try.ntmps62
  go_wp2_with (at_builtin; refine Lib.wpList_append_run _ rfl _ _ _ _ rfl _ _ rfl rfl _ _ (hrz _) ?_)
  go_ret
  refine ⟨_, rfl, ?_, by (repeat' (first | (with_reducible exact Below.refl _ _) | (with_reducible assumption) | (with_reducible refine Below.drewN ?_ _) | (with_reducible refine Below.alloc ?_ ?_ _) | (with_reducible refine Below.drew ?_) | (with_reducible refine Below.setCell ?_ ?_ _) | (with_reducible refine Below.trans ?_ (Below.mono (by assumption) ?_)) | go_size | (with_reducible refine Nat.le_trans ?_ (Below.size (by assumption)))))⟩
  refine World.ownsRow_made (size := 1) w.drew _ G (Nat.le_refl _) HG.out ?_
  simp [Builtin.zeroCells]
  omega

theorem wpList_appR {P : Program} {w : World} {ops : Array Oper} {rest : List Oper} {o : Oper} {a : Act} {Q : Exit → Act → World → Prop} (hgd : o.guard = none) (s x : Operand) (t : TypeId)
    (ho : o.op = .call { callee := .builtin .append, args := #[s, x], argTypes := #[t, t] }) (base : Nat) (e : TypeId) (z : Value) (bytes : Nat)
    (ht : P.underlying t = some (.slice e)) (hinfo : (P.info? e).map (fun i => (i.zero, i.size, i.bytes)) = some (some z, 1, bytes)) (hzs : z.cells.size = 1) (hb64 : bytes ≤ 64)
    (v : Value) (n : Nat) (xs : List Value) (hs : a.eval s = v) (hown : w.ownsRow base e 1 v n xs) (ad : Addr) (m c : Nat) (news : List Value) (hx : a.eval x = .slice (some ad) m c)
    (hl : news.length = m) (hnews : ∀ j u, news[j]? = some u → w.cell? (ad.add j) = some u) (h1 : ∀ u ∈ news, u.oneCell' = true)
    (hn : n + m < 1099511627776) (hbase : base ≤ w.heap.size)
    (h : ∀ v' w', w'.ownsRow base e 1 v' (n + m) (xs ++ news) → w.grownBy w' v.ownBlock → (v' = .slice none 0 0 → v = .slice none 0 0) → wpList P ops Q rest (a.put o.dst v') w') : wpList P ops Q (o :: rest) a w := by
  refine wpList_plain hgd fun K hK => ?_
  obtain ⟨v', w', hr, o1, o2, o3⟩ := run_appS (P := P) t o.type base e z bytes ht hinfo hzs hb64 v n xs hown ad m c news hl hnews h1 hn hbase
  unfold Oper.wp execOp
  simp only [ho, resolve, invoke, builtin, Sem.run_bind, Sem.run_pure, Result.andThen_ok, List.map_toArray, List.map_cons, List.map_nil, hs, hx, hr]
  exact hK _ _ (h v' w' o1 o2 o3)

theorem RowI.cellsR {w : World} {g : Nat} {xs : List Int} (h : RowI w g 0 xs) : ∀ j v, (ic xs)[j]? = some v → w.cell? ((⟨g, 0, none⟩ : Addr).add j) = some v := by
  intro j v hj
  have := h.news 0 xs.length (by omega) j v
  rw [List.drop_zero, List.take_length, Nat.zero_add] at this
  exact this hj

theorem run_app_nilR {P : Program} {w : World} (t ty e : TypeId) (i : TypeInfo) (z : Value) (ht : P.underlying t = some (.slice e)) (hi : P.info? e = some i) (hz : i.zero = some z) (g n c : Nat) (hnc : n ≤ c) (hn : n ≤ 1000) :
    (Builtin.append_ #[t, t] ty #[.slice (some ⟨g, 0, none⟩) n c, .slice none 0 0]).run P w = .ok (.slice (some ⟨g, 0, none⟩) n c) w := by
  have h63' : ¬ (9223372036854775807 < (n : Int)) := by omega
  simp [Builtin.append_, run_underlying ht, sizeOf, typeInfo, zeroValue, hi, hz, Builtin.lenOf, hnc, run_firstCells_none, storeCells]

set_option maxHeartbeats 4000000 in
theorem concat2_any (bo co g cg : Nat) (x : Int) (vr : Value) (row : List Int) (w : World) (c0 : w.cell? ⟨bo, 0, none⟩ = some (.slice (some ⟨g, 0, none⟩) 1 cg)) (c1 : w.cell? ⟨bo, 1, none⟩ = some vr)
    (hg : w.cell? ⟨g, 0, none⟩ = some (.int .i64 x)) (hr : (vr = .slice none 0 0 ∧ row = []) ∨ ∃ b c, vr = .slice (some ⟨b, 0, none⟩) row.length c ∧ RowI w b 0 row) (hl : row.length ≤ 10) :
    Calls Try.prog 50 #[.slice (some ⟨bo, 0, none⟩) 2 co] w fun e w' => ∃ v, e = .returned v ∧ OwnI w' w.heap.size v (row.length + 1) (x :: row) ∧ Below w.heap.size w w' := by
  obtain ⟨A, c, hvr⟩ : ∃ A c, vr = .slice A row.length c := by
    rcases hr with ⟨h1, h2⟩ | ⟨b, c, h1, _⟩
    · exact ⟨none, 0, by rw [h1, h2]; rfl⟩
    · exact ⟨_, c, h1⟩
  have HR := Lib.hid hr
  have HVR := Lib.hid hvr
  obtain ⟨m, hm⟩ : ∃ m, row.length = m := ⟨_, rfl⟩
  have HM := Lib.hid hm
  rw [hm] at hvr hl
  rw [hm]
  subst hvr
  have C0 := Lib.hid c0
  have C1 := Lib.hid c1
  have HG := Lib.hid hg
  clear hr c0 c1 hg hm
  obtain ⟨K, hK⟩ : ∃ K, m + 1 = K := ⟨_, rfl⟩
  have q1 : IntKind.i64.wrap (1 + (m : Int)) = (K : Int) := by rw [IntWalk.i64_in _ (by omega)]; omega
  have q2 : ¬ (K : Int) < 0 := by omega
  have HK := Lib.hid hK
  have k1 : 1 ≤ K := by omega
  have k2 : K ≤ 11 := by omega
  clear hK
  go_enter Try.func50, Try.ntmps50
  go_wp2_with fail
  go_loopw [3, 11] (fun v3 v11 wr => ∃ j : Nat, j ≤ 2 ∧ v11 = .int .i64 j ∧ v3 = .int .i64 (if j = 0 then 0 else if j = 1 then 1 else K) ∧ wr = w) (fun _ v11 _ => 2 - (intOf v11).toNat)
  case atStart => exact ⟨0, by omega, rfl, rfl, by trivial⟩
  case round =>
    obtain ⟨j, hj, rfl, rfl, rfl⟩ := hrel
    obtain rfl | rfl | rfl : j = 0 ∨ j = 1 ∨ j = 2 := by omega
    · have c0 := C0.out
      go_wp2_with fail
      go_roundw
      case rel => exact ⟨1, by omega, by go_num, rfl, by trivial⟩
      case measure => simp [intOf]
    · have c1 := C1.out
      go_wp2_with fail
      go_roundw
      case rel => exact ⟨2, by omega, by go_num, rfl, by trivial⟩
      case measure => simp [intOf]
    · have CG := Lib.hid (growI_nil K wr k1 (by omega))
      go_wp2_with (go_at_call 62; refine CG.out.mono ?_; rintro e w1 ⟨v, rfl, ho, hb⟩; have HO := Lib.hid ho; have HB := Lib.hid hb; clear ho hb)
      have hj2 := hj
      obtain ⟨wo, rfl⟩ : ∃ wo : World, wo = wr := ⟨_, rfl⟩
      clear CG
      go_loopw [6, 27] (fun v6 v27 wi => ∃ j : Nat, j ≤ 2 ∧ v27 = .int .i64 j ∧ OwnI wi wo.heap.size v6 (if j = 0 then 0 else if j = 1 then 1 else K) (if j = 0 then [] else if j = 1 then [x] else x :: row) ∧ Below wo.heap.size wo wi) (fun _ v27 _ => 2 - (intOf v27).toNat)
      case atStart => exact ⟨0, by omega, rfl, HO.out, HB.out⟩
      case round =>
        obtain ⟨j, hj, rfl, ho, hb⟩ := hrel
        have HO := Lib.hid ho
        have HB := Lib.hid hb
        have zb := hb.size
        clear ho
        obtain rfl | rfl | rfl : j = 0 ∨ j = 1 ∨ j = 2 := by omega
        · have c0 : wr.cell? ⟨bo, 0, none⟩ = _ := (hb.cell (World.block_lt_of_cell? wo _ C0.out)).trans C0.out
          have hg := (hb.cell (World.block_lt_of_cell? wo _ HG.out)).trans HG.out
          have HGW := Lib.hid hg
          clear hb hg
          go_wp2_with (at_builtin; refine wpList_appR rfl (.tmp 31) (.tmp 32) 23 rfl wo.heap.size 3 (.int .i64 0) 8 Try.underlying23 infoI rfl (by decide) _ 0 [] rfl HO.out ⟨g, 0, none⟩ 1 cg [.int .i64 x] rfl rfl (news_one HGW.out) (one_one _) (by omega) zb ?_; intro v5 w5 o1 o2 o3)
          go_roundw
          case rel => exact ⟨1, by omega, by go_num, by simpa [OwnI, ic] using o1, HB.out.trans (Below.app HO.out zb o2)⟩
          case measure => simp [intOf]
        · have c1 : wr.cell? ⟨bo, 1, none⟩ = _ := (hb.cell (World.block_lt_of_cell? wo _ C1.out)).trans C1.out
          rcases HR.out with ⟨h1, h2⟩ | ⟨b, cc, h1, h2⟩
          · have hrow : row.length = 0 := by rw [h2]; rfl
            have hK1 : K = 1 := by have := HK.out; have := HM.out; omega
            rw [h1] at c1
            obtain ⟨i0, hi, hz0, hz1, hz2⟩ := info_parts infoI
            obtain ⟨g6, cap6, he, hg6⟩ := OwnI.shape HO.out (by simp)
            have ho := HO.out
            rw [he] at ho
            have hcap : 1 ≤ cap6 := OwnI.cap ho
            have heq : ∀ ty, (Builtin.append_ #[23, 23] ty #[.slice (some ⟨g6, 0, none⟩) 1 cap6, .slice none 0 0]).run Try.prog wr = _ := fun ty => run_app_nilR (P := Try.prog) (w := wr) 23 ty 3 i0 _ Try.underlying23 hi hz0 g6 1 cap6 hcap (by omega)
            have HEQ := Lib.hid heq
            have HOO := Lib.hid ho
            have HH2 := Lib.hid h2
            clear hb h1 h2 hi hz0 hz1 hz2 heq ho hrow HO HK HM
            subst he hK1
            go_wp2_with (at_builtin; refine Lib.wpList_append_run _ rfl _ _ _ _ rfl _ _ rfl rfl _ _ (HEQ.out _) ?_)
            go_roundw
            case rel =>
              repeat apply Exists.intro
              refine ⟨⟨2, by omega, ?_, ?_, HB.out⟩, rfl, rfl, rfl⟩
              · go_num
              · rw [HH2.out]; exact HOO.out
            case measure => simp [intOf]
          · rw [h1, HM.out] at c1
            have HRW := Lib.hid (h2.below hb).cellsR
            clear hb h1 h2
            go_wp2_with (at_builtin; refine wpList_appR rfl (.tmp 31) (.tmp 32) 23 rfl wo.heap.size 3 (.int .i64 0) 8 Try.underlying23 infoI rfl (by decide) _ 1 (ic [x]) rfl HO.out ⟨b, 0, none⟩ m cc (ic row) rfl (by rw [ic_length]; exact HM.out) HRW.out ic_one (by omega) zb ?_; intro v5 w5 o1 o2 o3)
            go_roundw
            case rel => exact ⟨2, by omega, by go_num, by rw [show 1 + m = K by have := HK.out; omega] at o1; exact o1, HB.out.trans (Below.app HO.out zb o2)⟩
            case measure => simp [intOf]
        · go_wp2_with fail
          go_ret
          exact ⟨_, rfl, by have := HO.out; rw [← HK.out] at this; exact this, HB.out⟩

end Go.Proofs.Ytpcnjkgoehepaaa
