/-
  Layer 6 (trie): Set at what is no range, Get, Blocks.
-/
import Derived.Test.YtkpkcimghkmkfaaTrD
namespace Go.Proofs.Ytkpkcimghkmkfaa
open Go.RowKit

set_option maxRecDepth 100000 in
set_option maxHeartbeats 1000000 in
theorem set_bad (P : Program) (hP : Is P) (b : Nat) (fr up v : Int) (w : World) (hbad : fr < 0 ∨ 1114111 < up ∨ up < fr) :
    Calls P 12 #[.pointer (some ⟨b, 0, none⟩), .int .i32 fr, .int .i32 up, .int .i64 v] w fun e w' => e = .returned (.int .i64 11) ∧ w = w' := by
  obtain rfl : P = Try.prog := hP
  by_cases h1 : fr < 0
  · clear hbad
    go_enter Try.func12, Try.ntmps12
    go_wp2
    go_ret
    exact ⟨rfl, rfl⟩
  · by_cases h2 : 1114111 < up
    · clear hbad
      go_enter Try.func12, Try.ntmps12
      go_wp2
      go_ret
      exact ⟨rfl, rfl⟩
    · have h3 : up < fr := by omega
      clear hbad
      go_enter Try.func12, Try.ntmps12
      go_wp2
      go_ret
      exact ⟨rfl, rfl⟩

theorem TabAt.lookAny {P : Program} (hP : Is P) {w : World} {b m : Nat} {z : Int} {f : Nat → Int} (h : TabAt P w b m z f) {x : Int} (hx : (Lit.int .i32 x).wf = true) :
    ∃ dv is, (Instr.lookup 56 (.map (some m)) (.int .i32 x) true).run P w = .ok (.tuple #[.agg (arrI dv), .bool is]) w ∧ (¬ (0 ≤ x ∧ x < 4352) → is = false) := by
  by_cases hin : 0 ≤ x ∧ x < 4352
  · obtain ⟨n, rfl⟩ : ∃ n : Nat, x = n := ⟨x.toNat, by omega⟩
    obtain ⟨dv, is, hr, _⟩ := h.look hP (x := n) (by omega)
    exact ⟨dv, is, hr, fun hc => absurd hin hc⟩
  · obtain ⟨dv, hr⟩ := h.lookNone hP hx hin
    exact ⟨dv, false, hr, fun _ => rfl⟩

theorem wf32 {x : Int} (h1 : -2147483648 ≤ x) (h2 : x ≤ 2147483647) : (Lit.int .i32 x).wf = true := by
  have e1 : IntKind.i32.min = -2147483648 := rfl
  have e2 : IntKind.i32.max = 2147483647 := rfl
  simp [Lit.wf, e1, e2]
  omega

set_option maxRecDepth 100000 in
set_option maxHeartbeats 2000000 in
theorem get_in (P : Program) (hP : Is P) (b m : Nat) (z : Int) (f : Nat → Int) (r : Nat) (w : World) (ht : TabAt P w b m z f) (hr : r < 1114112) :
    Calls P 17 #[.pointer (some ⟨b, 0, none⟩), .int .i32 r] w fun e w' => e = .returned (.int .i64 (f r)) ∧ Below w.heap.size w w' := by
  have hf := Try.func17; rw [← hP] at hf
  have t3 := Try.underlying3; rw [← hP] at t3
  have a3 := Try.isAgg3; rw [← hP] at a3
  have z3 := Try.sizeOf3; rw [← hP] at z3
  have v3 := Try.zeroValue3; rw [← hP] at v3
  have t4 := Try.underlying4; rw [← hP] at t4
  have r21 := Try.runUnderlying21; rw [← hP] at r21
  have t21 := Try.underlying21; rw [← hP] at t21
  have r23 := Try.runUnderlying23; rw [← hP] at r23
  have t23 := Try.underlying23; rw [← hP] at t23
  have t56 := Try.underlying56; rw [← hP] at t56
  have a56 := Try.isAgg56; rw [← hP] at a56
  have z56 := Try.sizeOf56; rw [← hP] at z56
  have r58 := Try.runUnderlying58; rw [← hP] at r58
  have t60 := Try.underlying60; rw [← hP] at t60
  have v60 := arr_zero; rw [← hP] at v60
  have i60 : (P.info? 60).map (·.size) = some 256 := by rw [hP]; kernel_rfl
  have hb0 := ht.blk.cell 0
  have hb1 := ht.blk.cell 1
  simp at hb0 hb1
  have hbw := cell_lt hb0
  obtain ⟨x, hx⟩ : ∃ x : Nat, (r : Int) / 256 = (x : Int) := ⟨r / 256, by omega⟩
  obtain ⟨y, hy⟩ : ∃ y : Nat, (r : Int) % 256 = (y : Int) := ⟨r % 256, by omega⟩
  have hy1 : y < 256 := by omega
  have hxy : x * 256 + y = r := by omega
  obtain ⟨dv, is, hlook, his⟩ := ht.look hP (x := x) (by omega)
  have g1 : ¬ (r : Int) < 0 := by omega
  have i1 : (0 : Int) ≤ (y : Int) := by omega
  have i2 : (y : Int) < 256 := by omega
  clear hP ht
  rcases his with ⟨rfl, hdv⟩ | ⟨rfl, hz⟩
  · have hv := hdv y hy1
    rw [hxy] at hv
    clear hdv
    have HV := Lib.hid hv; clear hv
    go_enter hf, Try.ntmps17
    go_wp2_with (refine wpList_store_arr rfl 60 _ _ rfl w.heap.size _ _ rfl rfl (row_new w _ _) i60 ?_; intro w2 hrow2 hk2; obtain ⟨hk2, hs2⟩ := below_new hk2; have hcy := (hrow2 y hy1).1; rw [Nat.zero_add] at hcy)
    go_ret
    exact ⟨by rw [HV.out]; rfl, hk2⟩
  · have hv := hz y hy1
    rw [hxy] at hv
    clear hz
    have HV := Lib.hid hv; clear hv
    go_enter hf, Try.ntmps17
    go_wp2_with (refine wpList_store_arr rfl 60 _ _ rfl w.heap.size _ _ rfl rfl (row_new w _ _) i60 ?_; intro w2 hrow2 hk2; obtain ⟨hk2, hs2⟩ := below_new hk2; have hb02 : w2.cell? ⟨b, 0, none⟩ = some (.int .i64 z) := (by (rw [hk2.cell hbw]; exact hb0)))
    go_ret
    exact ⟨by rw [HV.out]; rfl, hk2⟩

set_option maxRecDepth 100000 in
set_option maxHeartbeats 2000000 in
theorem get_out (P : Program) (hP : Is P) (b m : Nat) (z : Int) (f : Nat → Int) (r : Int) (w : World) (ht : TabAt P w b m z f) (hr : ¬ (0 ≤ r ∧ r < 1114112)) (hr1 : -2147483648 ≤ r) (hr2 : r ≤ 2147483647) :
    Calls P 17 #[.pointer (some ⟨b, 0, none⟩), .int .i32 r] w fun e w' => e = .returned (.int .i64 z) ∧ Below w.heap.size w w' := by
  have hf := Try.func17; rw [← hP] at hf
  have t3 := Try.underlying3; rw [← hP] at t3
  have a3 := Try.isAgg3; rw [← hP] at a3
  have z3 := Try.sizeOf3; rw [← hP] at z3
  have v3 := Try.zeroValue3; rw [← hP] at v3
  have t4 := Try.underlying4; rw [← hP] at t4
  have r21 := Try.runUnderlying21; rw [← hP] at r21
  have t21 := Try.underlying21; rw [← hP] at t21
  have r23 := Try.runUnderlying23; rw [← hP] at r23
  have t23 := Try.underlying23; rw [← hP] at t23
  have t56 := Try.underlying56; rw [← hP] at t56
  have a56 := Try.isAgg56; rw [← hP] at a56
  have z56 := Try.sizeOf56; rw [← hP] at z56
  have r58 := Try.runUnderlying58; rw [← hP] at r58
  have t60 := Try.underlying60; rw [← hP] at t60
  have v60 := arr_zero; rw [← hP] at v60
  have i60 : (P.info? 60).map (·.size) = some 256 := by rw [hP]; kernel_rfl
  have hb0 := ht.blk.cell 0
  have hb1 := ht.blk.cell 1
  simp at hb0 hb1
  have hbw := cell_lt hb0
  have hP0 := Lib.hid hP; clear hP
  by_cases hn : r < 0
  · have hq1 : -8388608 ≤ r.tdiv 256 ∧ r.tdiv 256 ≤ 0 := by
      obtain ⟨n, rfl⟩ : ∃ n : Nat, r = -(n : Int) := ⟨(-r).toNat, by omega⟩
      rw [Int.neg_tdiv, Int.tdiv_eq_ediv_of_nonneg (by omega)]
      omega
    obtain ⟨dv, is, hlook, _⟩ := ht.lookAny hP0.out (x := r.tdiv 256) (wf32 (by omega) (by omega))
    have hw : IntKind.i32.wrap (r.tdiv 256) = r.tdiv 256 := IntWalk.i32_in _ (by omega)
    clear ht
    go_enter hf, Try.ntmps17
    go_wp2_with (refine wpList_store_arr rfl 60 _ _ rfl w.heap.size _ _ rfl rfl (row_new w _ _) i60 ?_; intro w2 hrow2 hk2; obtain ⟨hk2, hs2⟩ := below_new hk2; have hb02 : w2.cell? ⟨b, 0, none⟩ = some (.int .i64 z) := (by (rw [hk2.cell hbw]; exact hb0)))
    go_ret
    exact ⟨rfl, hk2⟩
  · obtain ⟨x, hx⟩ : ∃ x : Nat, r / 256 = (x : Int) := ⟨(r / 256).toNat, by omega⟩
    obtain ⟨dv, is, hlook, his⟩ := ht.lookAny hP0.out (x := (x : Int)) (wf32 (by omega) (by omega))
    obtain rfl := his (by omega)
    obtain ⟨r', rfl⟩ : ∃ r' : Nat, r = r' := ⟨r.toNat, by omega⟩
    have g1 : ¬ (r' : Int) < 0 := hn
    clear ht his
    go_enter hf, Try.ntmps17
    go_wp2_with (refine wpList_store_arr rfl 60 _ _ rfl w.heap.size _ _ rfl rfl (row_new w _ _) i60 ?_; intro w2 hrow2 hk2; obtain ⟨hk2, hs2⟩ := below_new hk2; have hb02 : w2.cell? ⟨b, 0, none⟩ = some (.int .i64 z) := (by (rw [hk2.cell hbw]; exact hb0)))
    go_ret
    exact ⟨rfl, hk2⟩

set_option maxRecDepth 100000 in
set_option maxHeartbeats 2000000 in
theorem blocks_any (P : Program) (hP : Is P) (b m : Nat) (z : Int) (f : Nat → Int) (w : World) (ht : TabAt P w b m z f) :
    Calls P 16 #[.pointer (some ⟨b, 0, none⟩)] w fun e w' => e = .returned (.int .i64 (cntB z f)) ∧ w = w' := by
  have hlen := ht.len hP
  have hb1 := ht.blk.cell 1
  simp at hb1
  obtain rfl : P = Try.prog := hP
  go_enter Try.func16, Try.ntmps16
  go_wp2
  go_ret
  exact ⟨rfl, rfl⟩

end Go.Proofs.Ytkpkcimghkmkfaa
