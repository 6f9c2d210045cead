/-
  Contract of the document's answer for layer 14: Cuts.
-/
import Derived.Test.YtmipppnioanjeaaMkD
import Derived.Deep.QuietTactic
import Derived.BigQuiet
namespace Go.Proofs.Ytmipppnioanjeaa
open Go.RowKit Pl14

set_option maxRecDepth 100000 in
set_option maxHeartbeats 4000000 in
theorem cuts_any (vl : Value) (xs : List Int) (w : World) (hl : Rd .i32 w vl xs) (hsz : xs.length ≤ 1000000) :
    Calls Try.prog 19 #[vl] w fun e w' => ∃ v, e = .returned v ∧ Own 3 .i64 w.heap.size w' v (cutsI xs xs.length) ∧ Below w.heap.size w w' := by
  obtain ⟨a, ca, rfl, ha1, ha2, _, ha3⟩ := hl
  have HA := Lib.hid ha3; clear ha3
  go_enter Try.func19, Try.ntmps19
  go_wp2
  go_loopw [3, 4] (fun v i wr => ∃ k : Nat, k ≤ xs.length ∧ i = .int .i64 k ∧ Own 3 .i64 w.heap.size wr v (cutsI xs k) ∧ Below w.heap.size w wr) (fun _ i _ => xs.length - (intOf i).toNat)
  case atStart => exact ⟨0, Nat.zero_le _, rfl, Own.nil _ _ _ _, Below.refl _ _⟩
  case round =>
    obtain ⟨k, hk, rfl, hown, hbl⟩ := hrel
    have hbs := hbl.size
    by_cases hlt : k < xs.length
    · rcases HA.out with rfl | ⟨b1, o1, rfl, hc1⟩
      · simp at hlt
      have c1 : wr.cell? ⟨b1, o1 + k, none⟩ = some (.int .i32 (xs.getD k 0)) := by rw [hbl.cell (cell_lt (hc1 k hlt))]; exact hc1 k hlt
      obtain ⟨x, hx⟩ : ∃ x, xs.getD k 0 = x := ⟨_, rfl⟩
      rw [hx] at c1
      have HX := Lib.hid hx; clear hx hc1
      have hlen := cutsI_length xs k
      have HO := Lib.hid hown; clear hown
      by_cases hk0 : k = 0
      · have hkb : ((k : Int) == 0) = true := by simp; omega
        have hcut : cutAt xs k = true := by unfold cutAt; simp [hk0]
        have HK := Lib.hid hk0; clear hk0
        have HCUT := Lib.hid hcut; clear hcut
        go_wp2_with (at_builtin; refine wpList_append1 intE rfl _ _ rfl w.heap.size _ _ HO.out rfl k _ rfl (by omega) (by omega) hbs ?_; intro v2 w2 hown2 hg2 _)
        go_wp2
        go_roundw
        case rel => exact ⟨k + 1, by omega, by go_num, by rw [cutsI_succ, if_pos HCUT.out]; exact hown2, below_append hbl hbs hg2 HO.out.lt⟩
        case measure => simp [intOf]; omega
      · have hkb : ((k : Int) == 0) = false := by simp; omega
        by_cases hx0 : cls x = 0
        · have hd : decide (cls x ≠ 0) = false := by simp [hx0]
          have hcut : cutAt xs k = true := by unfold cutAt; rw [HX.out]; simp [hx0]
          have HCUT := Lib.hid hcut; clear hcut hx0
          go_wp2_with fail
          refine (mark_any _ _).mono ?_
          rintro e w1 ⟨rfl, hb1⟩
          rw [hd]
          have HO1 := Lib.hid (HO.out.kept rfl hb1)
          have hbl1 : Below w.heap.size w w1 := hbl.trans (hb1.mono hbs)
          have hs1 := hbl1.size
          go_wp2_with (at_builtin; refine wpList_append1 intE rfl _ _ rfl w.heap.size _ _ HO1.out rfl k _ rfl (by omega) (by omega) hs1 ?_; intro v2 w2 hown2 hg2 _)
          go_wp2
          go_roundw
          case rel => exact ⟨k + 1, by omega, by go_num, by rw [cutsI_succ, if_pos HCUT.out]; exact hown2, below_append hbl1 hs1 hg2 HO1.out.lt⟩
          case measure => simp [intOf]; omega
        · have hd : decide (cls x ≠ 0) = true := by simp [hx0]
          have hcut : ¬ cutAt xs k = true := by unfold cutAt; rw [HX.out]; simp [hx0, hk0]
          have HCUT := Lib.hid hcut; clear hcut hx0
          go_wp2_with fail
          refine (mark_any _ _).mono ?_
          rintro e w1 ⟨rfl, hb1⟩
          rw [hd]
          go_wp2
          go_roundw
          case rel => exact ⟨k + 1, by omega, by go_num, by rw [cutsI_succ, if_neg HCUT.out]; exact HO.out.kept rfl hb1, hbl.trans (hb1.mono hbs)⟩
          case measure => simp [intOf]; omega
    · obtain rfl : xs.length = k := by omega
      go_wp2
      go_ret
      exact ⟨_, rfl, hown, hbl⟩

end Go.Proofs.Ytmipppnioanjeaa
