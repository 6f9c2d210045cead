/-
  Contracts of layer 14's law package: of.
-/
import Derived.Test.YtmipppnioanjeaaMkA
import Derived.Deep.RegionHeld3
namespace Go.Proofs.Ytmipppnioanjeaa
open Go.RowKit Pl14

theorem nilAhead_small (w : World) : (nilAhead 179 52 (.agg #[]) "Class").run Try.prog w = .ok (some false) w := by kernel_rfl
theorem method_small (w : World) : (method 179 52 (.agg #[]) "Class").run Try.prog w = .ok (30, .agg #[]) w := by kernel_rfl

set_option maxHeartbeats 800000 in
theorem of_any (va : Value) (xs : List Int) (c : Int) (w : World) (ha : Rd .i32 w va xs) (hreach : xs.length * 4 ≤ 140737488351232) :
    Calls Try.prog 20 #[va, .int .i64 c] w fun e w' => ∃ v, e = .returned v ∧ Own 21 .i32 w.heap.size w' v (ofC c xs) ∧ Below w.heap.size w w' := by
  obtain ⟨a, ca, rfl, ha1, ha2, _, ha3⟩ := ha
  have hna := nilAhead_small
  have hme := method_small
  go_enter Try.func20, Try.ntmps20
  go_wp2
  go_loopw [5, 6] (fun v i wr => ∃ k : Nat, k ≤ xs.length ∧ i = .int .i64 k ∧ Own 21 .i32 w.heap.size wr v (ofC c (xs.take k)) ∧ Below w.heap.size w wr) (fun _ i _ => xs.length - (intOf i).toNat)
  case atStart => exact ⟨0, Nat.zero_le _, rfl, Own.nil _ _ _ _, Below.refl _ _⟩
  case round =>
    obtain ⟨k, hk, rfl, hown, hbl⟩ := hrel
    by_cases hlt : k < xs.length
    · rcases ha3 with rfl | ⟨b1, o1, rfl, hc1⟩
      · simp at hlt
      have c1 : wr.cell? ⟨b1, o1 + k, none⟩ = some (.int .i32 (xs.getD k 0)) := by rw [hbl.cell (cell_lt (hc1 k hlt))]; exact hc1 k hlt
      have hbw : b1 < w.heap.size := cell_lt (hc1 k hlt)
      have hbr : b1 < wr.heap.size := cell_lt c1
      clear hc1
      obtain ⟨x, hx⟩ : ∃ x, xs.getD k 0 = x := ⟨_, rfl⟩
      rw [hx] at c1
      have HX := Lib.hid hx; clear hx
      go_wp2
      go_region_held3 (fun w' => w'.cell? ⟨b1, o1 + k, none⟩ = some (.int .i32 x)) (first | go_keep | (rw [hb.cell (by simp; omega)]; first | assumption | simpa using c1))
        (first | (go_at_call 11; refine (small_any _).mono ?_; rintro e w' ⟨rfl, rfl⟩) | (go_at_call 30; refine (class_any _ _).mono ?_; rintro e w' ⟨rfl, hb⟩))
      have hown2 := (hown.drew).kept rfl hb
      have hbl2 : Below w.heap.size w w' := hbl.drew.trans (hb.mono (by have := hbl.size; simp; omega))
      clear hb c1 hbl hown hbr
      obtain ⟨n, hn⟩ : ∃ n, (ofC c (xs.take k)).length = n := ⟨_, rfl⟩
      have hnk : n ≤ k := by rw [← hn]; exact Nat.le_trans (List.length_filter_le _ _) (List.length_take_le _ _)
      by_cases hc : cls x = c
      · have hcb : (cls x == c) = true := by simp [hc]
        have HC := Lib.hid hc; clear hc
        have HN := Lib.hid hn; clear hn
        go_wp2_with (at_builtin; refine wpList_append1 rune rfl _ _ rfl w.heap.size _ _ hown2 rfl x _ rfl (by rw [HN.out]; omega) (by rw [HN.out]; omega) hbl2.size ?_; intro v' w1 hown3 hgrow _)
        go_wp2
        go_roundw
        case rel =>
          refine ⟨k + 1, by omega, by go_num, ?_, below_append hbl2 (by have := hbl2.size; omega) hgrow hown2.lt⟩
          rw [take_snoc xs k hlt, HX.out, ofC_snoc, if_pos HC.out]
          exact hown3
        case measure => simp [intOf]; omega
      · have hcb : (cls x == c) = false := by simp [hc]
        go_wp2
        go_roundw
        case rel =>
          refine ⟨k + 1, by omega, by go_num, ?_, hbl2⟩
          rw [take_snoc xs k hlt, HX.out, ofC_snoc, if_neg hc]
          exact hown2
        case measure => simp [intOf]; omega
    · go_wp2
      go_ret
      have : xs.take k = xs := List.take_of_length_le (by omega)
      exact ⟨_, rfl, by rw [this] at hown; exact hown, hbl⟩

end Go.Proofs.Ytmipppnioanjeaa
