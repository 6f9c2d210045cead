/-
  Layer 6 (trie): the document's answer: edge, All.
-/
import Derived.Test.YtkpkcimghkmkfaaTrQ
import Derived.Deep.CutBlock
import Derived.Deep.DeepCutAuto
namespace Go.Proofs.Ytkpkcimghkmkfaa
open Go.RowKit

theorem RefAt.below {w w' : World} {base rb n : Nat} {z : Int} {L : List Pc} {v : Value} (h : RefAt w base rb z L v) (hb : Below n w w') (hn : n = w.heap.size) : RefAt w' base rb z L v :=
  h.keep (Keep.of_below (S := fun _ => False) hb hn) (fun h => h) (fun _ _ h => h)
theorem RefAt.drew {w : World} {base rb : Nat} {z : Int} {L : List Pc} {v : Value} (h : RefAt w base rb z L v) : RefAt w.drew base rb z L v := ⟨h.blk, h.row⟩

set_option maxRecDepth 100000 in
set_option maxHeartbeats 4000000 in
theorem ref_edge (base rb : Nat) (z : Int) (L : List Pc) (v : Value) (r : Nat) (w : World) (hR : RefAt w base rb z L v) (hL : L.length ≤ 1000000) (hr : r < 1114112) :
    Calls Try.prog 32 #[.pointer (some ⟨rb, 0, none⟩), .int .i32 r] w fun e w' => ∃ o : Nat, e = .returned (.int .i32 o) ∧ EdgeAt L r o ∧ w' = w := by
  have hc1 := hR.blk.cell 1
  simp at hc1
  obtain ⟨k, hk⟩ : ∃ k, L.length = k := ⟨_, rfl⟩
  have hrow := hR.row
  rw [hk] at hrow hL
  obtain ⟨ad, cap, rfl, hcc, hcm, had⟩ := ownsRow_shapeN hrow
  have HROW := Lib.hid hrow; clear hrow
  have HAD := Lib.hid had; clear had
  have HK := Lib.hid hk; clear hk
  clear hR
  go_enter Try.func32, Try.ntmps32
  go_wp2
  go_loop [5, 6] (fun s5 s6 => ∃ i o : Nat, i ≤ k ∧ s6 = .int .i64 i ∧ s5 = .int .i32 o ∧ EdgeAt (L.take i) r o) (fun _ s6 => k - (intOf s6).toNat)
  case atStart => exact ⟨0, 1114112, Nat.zero_le _, rfl, rfl, EdgeAt.start r hr⟩
  case round =>
    obtain ⟨i, o, hi, rfl, rfl, hE⟩ := hrel
    have ho := hE.le
    have HE := Lib.hid hE; clear hE
    by_cases hlt : i < k
    · have hik : i < L.length := by rw [HK.out]; exact hlt
      obtain ⟨g, rfl⟩ : ∃ g, ad = some ⟨g, 0, none⟩ := by
        rcases HAD.out with ⟨_, _, h0⟩ | ⟨g, h, _⟩
        · omega
        · exact ⟨g, h⟩
      obtain ⟨s, hs⟩ : ∃ s, L[i] = s := ⟨_, rfl⟩
      have hgd : L.getD i s = s := by rw [List.getD_eq_getElem?_getD, List.getElem?_eq_getElem hik, hs]; rfl
      have htk : L.take (i + 1) = L.take i ++ [s] := by rw [List.take_succ_eq_append_getElem hik, hs]
      have c0 : w.cell? ⟨g, i * 3, none⟩ = some (.int .i32 (s.1.val : Int)) := by
        have := flat_at cells3_len s L i 0 hik (by omega)
        rw [HROW.out.cellAt _ (by omega), ← Nat.add_zero (i * 3), this, hgd]; rfl
      have c1 : w.cell? ⟨g, i * 3 + 1, none⟩ = some (.int .i32 (s.2.1.val : Int)) := by
        rw [HROW.out.cellAt _ (by omega), flat_at cells3_len s L i 1 hik (by omega), hgd]; rfl
      have i0 : (0 : Int) ≤ (i : Int) := by omega
      have i1 : (i : Int) < (k : Int) := by omega
      have HTK := Lib.hid htk; clear htk
      clear hgd
      have hsl1 := s.1.isLt
      have hsl2 := s.2.1.isLt
      obtain ⟨sa, hsa⟩ : ∃ x, s.1.val = x := ⟨_, rfl⟩
      obtain ⟨sb, hsb⟩ : ∃ x, s.2.1.val = x := ⟨_, rfl⟩
      rw [hsa] at c0 hsl1
      rw [hsb] at c1 hsl2
      have HSA := Lib.hid hsa; clear hsa
      have HSB := Lib.hid hsb; clear hsb
      have HSS := Lib.hid hs; clear hs
      obtain ⟨sc, hsc⟩ : ∃ sc, sb + 1 = sc := ⟨_, rfl⟩
      have hw1 : IntKind.i32.wrap ((sb : Int) + 1) = (sc : Int) := by rw [IntWalk.i32_in _ (by omega)]; omega
      have HSC := Lib.hid hsc; clear hsc
      go_upto_region 7 with fail
      go_cut [42] from 35 to 42 (fun s42 wx => s42 = .bool (decide (r < sa ∧ sa < o)) ∧ wx = w)
      case first =>
        by_cases e1 : r < sa
        · have e1' : decide (r < sa) = true := decide_eq_true e1
          by_cases e2 : sa < o
          · have e2' : decide (sa < o) = true := decide_eq_true e2
            go_wp2
            go_meet
            exact ⟨by rw [decide_eq_true ⟨e1, e2⟩], rfl⟩
          · have e2' : decide (sa < o) = false := decide_eq_false e2
            go_wp2
            go_meet
            exact ⟨by rw [decide_eq_false (fun h => e2 h.2)], rfl⟩
        · have e1' : decide (r < sa) = false := decide_eq_false e1
          go_wp2
          go_meet
          exact ⟨by rw [decide_eq_false (fun h => e1 h.1)], rfl⟩
      case rest =>
        obtain ⟨rfl, hwc⟩ := hcut
        rw [hwc]
        clear hwc
        by_cases ea : r < sa ∧ sa < o
        · rw [decide_eq_true ea]
          have EA := Lib.hid ea; clear ea
          go_upto_region 9 with fail
          go_cut [51] from 44 to 51 (fun s51 wx => s51 = .bool (decide (r < sc ∧ sc < sa)) ∧ wx = w)
          case first =>
            by_cases e1 : r < sc
            · have e1' : decide (r < sc) = true := decide_eq_true e1
              by_cases e2 : sc < sa
              · have e2' : decide (sc < sa) = true := decide_eq_true e2
                go_wp2
                go_meet
                exact ⟨by rw [decide_eq_true ⟨e1, e2⟩], rfl⟩
              · have e2' : decide (sc < sa) = false := decide_eq_false e2
                go_wp2
                go_meet
                exact ⟨by rw [decide_eq_false (fun h => e2 h.2)], rfl⟩
            · have e1' : decide (r < sc) = false := decide_eq_false e1
              go_wp2
              go_meet
              exact ⟨by rw [decide_eq_false (fun h => e1 h.1)], rfl⟩
          case rest =>
            obtain ⟨rfl, hwc⟩ := hcut
            rw [hwc]
            clear hwc
            by_cases eb : r < sc ∧ sc < sa
            · rw [decide_eq_true eb]
              have EB := Lib.hid eb; clear eb
              go_wp2
              go_round
              case rel =>
                refine ⟨i + 1, sc, by omega, by go_num, rfl, ?_⟩
                rw [HTK.out]
                have := HSA.out; have := HSB.out; have := HSC.out; have := EB.out; have := EA.out
                exact HE.out.step (by omega) (by omega) (by omega) (by omega)
              case measure => simp [intOf]; omega
            · rw [decide_eq_false eb]
              have EB := Lib.hid eb; clear eb
              go_wp2
              go_round
              case rel =>
                refine ⟨i + 1, sa, by omega, by go_num, rfl, ?_⟩
                rw [HTK.out]
                have := HSA.out; have := HSB.out; have := HSC.out; have := EB.out; have := EA.out; have := HE.out.gt
                exact HE.out.step (by omega) (by omega) (by omega) (by omega)
              case measure => simp [intOf]; omega
        · rw [decide_eq_false ea]
          have EA := Lib.hid ea; clear ea
          go_upto_region 9 with fail
          go_cut [51] from 44 to 51 (fun s51 wx => s51 = .bool (decide (r < sc ∧ sc < o)) ∧ wx = w)
          case first =>
            by_cases e1 : r < sc
            · have e1' : decide (r < sc) = true := decide_eq_true e1
              by_cases e2 : sc < o
              · have e2' : decide (sc < o) = true := decide_eq_true e2
                go_wp2
                go_meet
                exact ⟨by rw [decide_eq_true ⟨e1, e2⟩], rfl⟩
              · have e2' : decide (sc < o) = false := decide_eq_false e2
                go_wp2
                go_meet
                exact ⟨by rw [decide_eq_false (fun h => e2 h.2)], rfl⟩
            · have e1' : decide (r < sc) = false := decide_eq_false e1
              go_wp2
              go_meet
              exact ⟨by rw [decide_eq_false (fun h => e1 h.1)], rfl⟩
          case rest =>
            obtain ⟨rfl, hwc⟩ := hcut
            rw [hwc]
            clear hwc
            by_cases eb : r < sc ∧ sc < o
            · rw [decide_eq_true eb]
              have EB := Lib.hid eb; clear eb
              go_wp2
              go_round
              case rel =>
                refine ⟨i + 1, sc, by omega, by go_num, rfl, ?_⟩
                rw [HTK.out]
                have := HSA.out; have := HSB.out; have := HSC.out; have := EB.out; have := EA.out
                exact HE.out.step (by omega) (by omega) (by omega) (by omega)
              case measure => simp [intOf]; omega
            · rw [decide_eq_false eb]
              have EB := Lib.hid eb; clear eb
              go_wp2
              go_round
              case rel =>
                refine ⟨i + 1, o, by omega, by go_num, rfl, ?_⟩
                rw [HTK.out]
                have := HSA.out; have := HSB.out; have := HSC.out; have := EB.out; have := EA.out; have := HE.out.gt
                exact HE.out.step (by omega) (by omega) (by omega) (by omega)
              case measure => simp [intOf]; omega
    · have i2 : ¬ (i : Int) < (k : Int) := by omega
      go_wp2
      go_ret
      refine ⟨o, rfl, ?_, rfl⟩
      have hik : i = k := by omega
      have := HE.out
      rw [hik, ← HK.out, List.take_length] at this
      exact this

end Go.Proofs.Ytkpkcimghkmkfaa
