/-
  Layer 6 (trie): the document's answer: All.
-/
import Derived.Test.YtkpkcimghkmkfaaTrR
namespace Go.Proofs.Ytkpkcimghkmkfaa
open Go.RowKit

theorem set_flat3 (L0 : List Pc) (y y' : Pc) (h : y'.1 = y.1) (h2 : y'.2.2 = y.2.2) : (flat cells3 (L0 ++ [y])).set (L0.length * 3 + 1) (.int .i32 (y'.2.1.val : Int)) = flat cells3 (L0 ++ [y']) := by
  rw [flat_snoc, flat_snoc, List.set_append_right _ _ (by rw [flat_len cells3_len]; omega), flat_len cells3_len]
  simp [cells3, h, h2]

set_option maxRecDepth 100000 in
set_option maxHeartbeats 8000000 in
theorem ref_all (base rb : Nat) (z : Int) (L : List Pc) (v : Value) (w : World) (hR : RefAt w base rb z L v) (hL : L.length ≤ 1000000) :
    Calls Try.prog 20 #[.pointer (some ⟨rb, 0, none⟩)] w fun e w' =>
      ∃ l vo, e = .returned vo ∧ Runs z (refF z L) 1114112 l ∧ w'.ownsRow w.heap.size 33 3 vo l.length (flat cells3 l) ∧ Below w.heap.size w w' := by
  have HR := Lib.hid hR
  have hz0 := hR.blk.cell 0
  simp at hz0
  have hrb := hR.blk.lt
  clear hR
  have ES := Lib.hid elemS
  go_enter Try.func20, Try.ntmps20
  go_wp2
  go_loopw [3, 4] (fun s3 s4 wr => ∃ (n : Nat) (l : List Pc), s4 = .int .i32 n ∧ n ≤ 1114112 ∧ Runs z (refF z L) n l ∧ wr.ownsRow w.heap.size 33 3 s3 l.length (flat cells3 l) ∧ Below w.heap.size w wr)
    (fun _ s4 _ => 1114112 - (intOf s4).toNat)
  case atStart => exact ⟨0, [], rfl, Nat.zero_le _, Runs.nil _ _, World.ownsRow_nil _ _ _ _, Below.refl _ _⟩
  case round =>
    obtain ⟨n, l, rfl, hn, hRun, hrow, hB⟩ := hrel
    rename_i s3
    by_cases hlt : n < 1114112
    · have hRr := Lib.hid (HR.out.below hB rfl)
      have hzr : wr.cell? ⟨rb, 0, none⟩ = some (.int .i64 z) := (hB.cell (p := ⟨rb, 0, none⟩) hrb).trans hz0
      have i1 : (n : Int) < 1114112 := by omega
      have hbs := hB.size
      obtain ⟨k, hk⟩ : ∃ k, l.length = k := ⟨_, rfl⟩
      have hkn : k ≤ n := by rw [← hk]; exact hRun.toPieces.len
      rw [hk] at hrow
      obtain ⟨ad, cap, rfl, hc1, hc2, had⟩ := ownsRow_shapeN hrow
      have HRun := Lib.hid hRun; clear hRun
      have HRow := Lib.hid hrow; clear hrow
      have HB := Lib.hid hB; clear hB
      have HK := Lib.hid hk; clear hk
      have HAD := Lib.hid had; clear had
      have hED := Lib.hid (ref_edge base rb z L v n wr hRr.out hL hlt)
      have hGT := Lib.hid (ref_get base rb z L v n wr hRr.out hL hlt)
      go_wp2_with fail
      refine hED.out.mono ?_
      rintro e wE ⟨nx, rfl, hEd, hwE⟩
      rw [hwE]
      clear hwE wE
      have hnx := hEd.gt
      have hnx2 := hEd.le
      have HEd := Lib.hid hEd; clear hEd
      go_wp2_with fail
      refine hGT.out.mono ?_
      rintro e wG ⟨rfl, hwG⟩
      rw [hwG]
      clear hwG wG
      obtain ⟨u, hu⟩ : ∃ u, refF z L n = u := ⟨_, rfl⟩
      rw [hu]
      have hconst : ∀ r, n ≤ r → r < nx → refF z L r = u := fun r h1 h2 => by rw [HEd.out.const h1 h2, hu]
      have HC := Lib.hid hconst; clear hconst
      have HU := Lib.hid hu; clear hu
      clear hED hGT
      by_cases huz : u = z
      · have h1 : (u != z) = false := by rw [huz]; simp
        go_wp2
        go_roundw
        case rel =>
          refine ⟨nx, l, rfl, by omega, HRun.out.skip (by omega) (fun r h1 h2 => by rw [HC.out r h1 h2, huz]), ?_, HB.out⟩
          rw [HK.out]; exact HRow.out
        case measure => simp [intOf]; omega
      · have h1 : (u != z) = true := by simpa using huz
        obtain ⟨m, hm⟩ : ∃ m, nx = m + 1 := ⟨nx - 1, by omega⟩
        obtain ⟨x, hx1, hx2, hx3⟩ : ∃ x : Pc, x.1.val = n ∧ x.2.1.val = m ∧ x.2.2 = u := ⟨(⟨n, hlt⟩, ⟨m, by omega⟩, u), rfl, rfl, rfl⟩
        have hNext := HRun.out.next (n' := nx) x hx1 (by rw [hx2]; exact hm.symm) (by omega) (by rw [hx3]; exact huz) (fun r h1 h2 => by rw [hx3]; exact HC.out r h1 h2)
        have hw1 : IntKind.i32.wrap ((n : Int) - 1) = (n : Int) - 1 := IntWalk.i32_in _ (by omega)
        have hw2 : IntKind.i32.wrap ((nx : Int) - 1) = (m : Int) := by rw [IntWalk.i32_in _ (by omega)]; omega
        have HN := Lib.hid hNext; clear hNext
        have HX := Lib.hid (And.intro hx1 (And.intro hx2 hx3)); clear hx1 hx2 hx3
        have HM := Lib.hid hm; clear hm
        go_upto_region 8 with fail
        go_cut [46] from 24 to 46 (fun s46 wx => s46 = .bool (joins l x) ∧ wx = wr)
        case first =>
          rcases List.eq_nil_or_concat l with hLe | ⟨L0, y, hLe⟩
          · have hk0 : decide (0 < k) = false := by have := HK.out; rw [hLe] at this; simp at this; exact decide_eq_false (by omega)
            go_wp2
            go_meet
            exact ⟨by rw [hLe, joins_nil], rfl⟩
          · rw [List.concat_eq_append] at hLe
            obtain ⟨k0, hk0⟩ : ∃ k0, L0.length = k0 := ⟨_, rfl⟩
            have hkk : k0 + 1 = k := by have := HK.out; rw [hLe] at this; simp at this; omega
            obtain ⟨g, rfl⟩ : ∃ g, ad = some ⟨g, 0, none⟩ := by
              rcases HAD.out with ⟨_, _, h0⟩ | ⟨g, h, _⟩
              · omega
              · exact ⟨g, h⟩
            have c1 : wr.cell? ⟨g, k0 * 3 + 1, none⟩ = some (.int .i32 (y.2.1.val : Int)) := by
              rw [HRow.out.cellAt _ (by omega), flat_at cells3_len y l k0 1 (by rw [HK.out]; omega) (by omega), hLe]
              simp [hk0, cells3]
            have c2 : wr.cell? ⟨g, k0 * 3 + 2, none⟩ = some (.int .i64 y.2.2) := by
              rw [HRow.out.cellAt _ (by omega), flat_at cells3_len y l k0 2 (by rw [HK.out]; omega) (by omega), hLe]
              simp [hk0, cells3]
            have hj : joins l x = decide (y.2.1.val + 1 = n ∧ y.2.2 = u) := by rw [hLe, joins_snoc, HX.out.1, HX.out.2.2]
            have HJ := Lib.hid hj; clear hj
            obtain ⟨yb, hyb⟩ : ∃ yb, y.2.1.val = yb := ⟨_, rfl⟩
            obtain ⟨yv, hyv⟩ : ∃ yv, y.2.2 = yv := ⟨_, rfl⟩
            rw [hyb] at c1 HJ
            rw [hyv] at c2 HJ
            have j1 : (0 : Int) ≤ (k0 : Int) := by omega
            have j2 : (k0 : Int) < (k : Int) := by omega
            have j3 : decide (0 < k) = true := decide_eq_true (by omega)
            have hw3 : IntKind.i64.wrap ((k : Int) - 1) = (k0 : Int) := by rw [IntWalk.i64_in _ (by omega)]; omega
            clear hLe hyb hyv hk0
            have HKK := Lib.hid hkk; clear hkk
            by_cases e1 : (yb : Int) = (n : Int) - 1
            · have e1' : ((yb : Int) == (n : Int) - 1) = true := by rw [beq_iff_eq]; exact e1
              have E1 := Lib.hid e1; clear e1
              by_cases e2 : yv = u
              · have e2' : (yv == u) = true := by rw [beq_iff_eq]; exact e2
                have E2 := Lib.hid e2; clear e2
                go_wp2
                go_meet
                exact ⟨by rw [HJ.out, decide_eq_true ⟨by have := E1.out; omega, E2.out⟩], rfl⟩
              · have e2' : (yv == u) = false := by rw [← Bool.not_eq_true, beq_iff_eq]; exact e2
                have E2 := Lib.hid e2; clear e2
                go_wp2
                go_meet
                exact ⟨by rw [HJ.out, decide_eq_false (fun h => E2.out h.2)], rfl⟩
            · have e1' : ((yb : Int) == (n : Int) - 1) = false := by rw [← Bool.not_eq_true, beq_iff_eq]; exact e1
              have E1 := Lib.hid e1; clear e1
              go_wp2
              go_meet
              exact ⟨by rw [HJ.out, decide_eq_false (fun h => E1.out (by omega))], rfl⟩
        case rest =>
          obtain ⟨rfl, hwc⟩ := hcut
          rw [hwc]
          clear hwc
          cases hj : joins l x with
          | true =>
            obtain ⟨L0, y, hLe, hy1, hy2, hms⟩ := joins_true hj
            obtain ⟨k0, hk0⟩ : ∃ k0, L0.length = k0 := ⟨_, rfl⟩
            have hkk : k0 + 1 = k := by have := HK.out; rw [hLe] at this; simp at this; omega
            obtain ⟨g, rfl⟩ : ∃ g, ad = some ⟨g, 0, none⟩ := by
              rcases HAD.out with ⟨_, _, h0⟩ | ⟨g, h, _⟩
              · omega
              · exact ⟨g, h⟩
            have c1 : wr.cell? ⟨g, k0 * 3 + 1, none⟩ = some (.int .i32 (y.2.1.val : Int)) := by
              rw [HRow.out.cellAt _ (by omega), flat_at cells3_len y l k0 1 (by rw [HK.out]; omega) (by omega), hLe]
              simp [hk0, cells3]
            have f1 : wr.frozen? ⟨g, k0 * 3 + 1, none⟩ = false := HRow.out.frozenAt _
            have j1 : (0 : Int) ≤ (k0 : Int) := by omega
            have j2 : (k0 : Int) < (k : Int) := by omega
            have hw3 : IntKind.i64.wrap ((k : Int) - 1) = (k0 : Int) := by rw [IntWalk.i64_in _ (by omega)]; omega
            have HJT := Lib.hid (And.intro hLe (And.intro hy2 (And.intro hms (And.intro hk0 hkk)))); clear hLe hy1 hy2 hms hk0 hkk hj
            go_wp2
            go_roundw
            case rel =>
              obtain ⟨hLe, hy2, hms, hk0, hkk⟩ := HJT.out
              have hst := HRow.out.stored (k0 * 3 + 1) (.int .i32 (m : Int))
              have hlen1 : (L0 ++ [(y.1, x.2.1, y.2.2)]).length = k := by simp; omega
              refine ⟨nx, mergeStep l x, rfl, by omega, HN.out, ?_, HB.out.grown hst.2 hbs (fun j e => (HRow.out.lt j e).1)⟩
              rw [hms, hlen1, ← set_flat3 L0 y (y.1, x.2.1, y.2.2) rfl rfl, hk0, ← hLe]
              dsimp only
              rw [HX.out.2.1]
              exact hst.1
            case measure => simp [intOf]; omega
          | false =>
            have hms := joins_false hj
            have HMS := Lib.hid hms; clear hms hj
            obtain ⟨W1, hW1⟩ : ∃ W1, wr.alloc (.cells #[.int .i32 (n : Int), .int .i32 (m : Int), .int .i64 u] 33) = W1 := ⟨_, rfl⟩
            have hbz : w.heap.size ≤ W1.heap.size := by rw [← hW1]; simp; omega
            have hp1 : Blk W1 wr.heap.size #[.int .i32 (n : Int), .int .i32 (m : Int), .int .i64 u] 33 := by rw [← hW1]; exact Blk.new _ _ _
            have hr1 : W1.ownsRow w.heap.size 33 3 (.slice ad k cap) k (flat cells3 l) := by rw [← hW1]; exact HRow.out.alloc _
            have hb1 : Below w.heap.size w W1 := by rw [← hW1]; exact HB.out.alloc hbs _
            have hone : ∀ u' ∈ (#[.int .i32 (n : Int), .int .i32 (m : Int), .int .i64 u] : Array Value).toList, u'.oneCell' = true := by simp [Value.oneCell']
            have hby : (k + 1) * 16 ≤ 140737488355328 := by omega
            have hky : k ≤ 140737488355328 := by omega
            have HP1 := Lib.hid hp1; clear hp1
            have HR1 := Lib.hid hr1; clear hr1
            have HB1 := Lib.hid hb1; clear hb1
            have HONE := Lib.hid hone; clear hone
            go_wp2_with (at_builtin; refine wpList_appendN ES.out rfl _ _ rfl w.heap.size (.slice ad k cap) k (flat cells3 l) rfl HR1.out wr.heap.size #[.int .i32 (n : Int), .int .i32 (m : Int), .int .i64 u] 33 HP1.out rfl rfl HONE.out hby hky hbz ?_; intro g cap' w2 hown hgr hat hg2)
            go_roundw
            case rel =>
              refine ⟨nx, mergeStep l x, rfl, by omega, HN.out, ?_, HB1.out.grown hgr hbz (fun j e => (HR1.out.lt j e).1)⟩
              rw [HMS.out, flat_snoc, List.length_append, List.length_singleton, HK.out]
              have ec : cells3 x = (#[.int .i32 (n : Int), .int .i32 (m : Int), .int .i64 u] : Array Value).toList := by unfold cells3; rw [HX.out.1, HX.out.2.1, HX.out.2.2]
              rw [ec]
              exact hown
            case measure => simp [intOf]; omega
    · have hn2 : n = 1114112 := by omega
      have i1 : ¬ (n : Int) < 1114112 := by omega
      go_wp2
      go_ret
      exact ⟨l, _, rfl, by rw [← hn2]; exact hRun, hrow, hB⟩

end Go.Proofs.Ytkpkcimghkmkfaa
