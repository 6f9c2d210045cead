/-
  Contracts: slices.Reverse, marks.Ahead.
-/
import Derived.Test.YtmipppnioanjeaaMkD
import Derived.Test.YtmipppnioanjeaaLibS
import Derived.BigRegion
namespace Go.Proofs.Ytmipppnioanjeaa
open Go.RowKit Pl14

/-- k places turned from each end -/
def revF (d : Nat → Int) (n k : Nat) : Nat → Int := fun p => if p < k ∨ (n - k ≤ p ∧ p < n) then d (n - 1 - p) else d p

theorem revF_step (d : Nat → Int) (n k p : Nat) (h : 2 * k + 1 < n) : swapF (revF d n k) k (n - 1 - k) p = revF d n (k + 1) p := by
  unfold swapF revF
  (repeat' split) <;> first | rfl | (exfalso; omega) | (congr 1; omega)

set_option maxHeartbeats 1600000 in
theorem reverse_any (B : Nat) (v : Value) (xs : List Int) (w : World) (ho : Own 21 .i32 B w v xs) (hsz : xs.length ≤ 1000000) :
    Calls Try.prog 27 #[v] w fun e w' => e = .returned (.tuple #[]) ∧ Own 21 .i32 B w' v xs.reverse ∧ Keep (fun j => v.ownBlock = some j) w w' := by
  obtain ⟨a, cap, rfl, hc1, hc2, hsh⟩ := ho.shape
  rcases hsh with ⟨rfl, rfl, rfl⟩ | ⟨g, rfl, hB, hg⟩
  · go_enter Try.func27, Try.ntmps27
    go_wp2
    refine wp_loop_rounds 1 ?_
    rw [rounds_succ]
    go_wp2
    go_end0
    exact ⟨rfl, Own.nil _ _ _ _, Keep.refl _ _⟩
  · obtain ⟨N, hN⟩ : ∃ N, xs.length = N := ⟨_, rfl⟩
    have HO := Lib.hid ho; clear ho
    rw [hN] at hc1 hsz
    have HROW0 := Lib.hid HO.out.row
    rw [hN] at HROW0
    have HN := Lib.hid hN
    rw [hN]
    clear hN
    go_enter Try.func27, Try.ntmps27
    go_wp2
    go_loopw [2, 3] (fun x y wr => ∃ k : Nat, 2 * k ≤ N + 1 ∧ x = .int .i64 k ∧ y = .int .i64 ((N : Int) - 1 - (k : Int)) ∧ RowF .i32 wr g 0 N (revF (fun j => xs.getD j 0) N k) ∧ KeepR g 0 N w wr) (fun x _ _ => N + 1 - (intOf x).toNat)
    case atStart => exact ⟨0, by omega, rfl, by simp, HROW0.out.congr (fun p hp => by unfold revF; rw [if_neg (by omega)]), KeepR.refl _ _ _ _⟩
    case round =>
      obtain ⟨k, hk, rfl, rfl, hrow, hkeep⟩ := hrel
      have HROW := Lib.hid hrow; clear hrow
      by_cases hlt : 2 * k + 1 < N
      · obtain ⟨q, hq⟩ : ∃ q : Nat, (N : Int) - 1 - (k : Int) = (q : Int) := ⟨N - 1 - k, by omega⟩
        have hq' : q = N - 1 - k := by omega
        have HQ := Lib.hid hq'; clear hq'
        have hkq : k < q := by omega
        have hqN : q < N := by omega
        obtain ⟨ca, fa⟩ := HROW.out k (by omega)
        obtain ⟨cb, fb⟩ := HROW.out q (by omega)
        obtain ⟨x, hx⟩ : ∃ x, revF (fun j => xs.getD j 0) N k k = x := ⟨_, rfl⟩
        obtain ⟨y, hy⟩ : ∃ y, revF (fun j => xs.getD j 0) N k q = y := ⟨_, rfl⟩
        rw [hx, Nat.zero_add] at ca
        rw [hy, Nat.zero_add] at cb
        rw [Nat.zero_add] at fa fb
        have HX := Lib.hid hx; clear hx
        have HY := Lib.hid hy; clear hy
        rw [hq]
        have HQ2 := Lib.hid hq; clear hq
        have i1 : (0 : Int) ≤ (k : Int) := by omega
        have i2 : (k : Int) < (N : Int) := by omega
        have i3 : (0 : Int) ≤ (q : Int) := by omega
        have i4 : (q : Int) < (N : Int) := by omega
        go_wp2
        go_region
        go_wp2
        go_roundw
        case rel =>
          have hs := HROW.out.swap k q (by omega) (by omega)
          rw [HX.out, HY.out, Nat.zero_add, Nat.zero_add] at hs
          have hk2 := (hkeep.trans (KeepR.swap wr g 0 N k q (.int .i32 y) (.int .i32 x) (by omega) (by omega)))
          rw [Nat.zero_add, Nat.zero_add] at hk2
          refine ⟨k + 1, by omega, by go_num, ?_, ?_, hk2.trans (KeepR.of_drew _ _ _ _)⟩
          · have := HQ2.out; congr 1; omega
          · refine (hs.congr (fun p _ => ?_)).drew
            rw [HQ.out]; exact revF_step _ N k p hlt
        case measure => simp [intOf]; omega
      · go_wp2
        go_end0
        have hN := HN.out
        refine ⟨rfl, ?_, hkeep.keep.weaken (fun j _ h => by subst h; rfl)⟩
        have hr := HROW.out
        subst hN
        refine HO.out.rebuild hkeep hr (by simp) ?_
        intro j hj
        unfold revF
        have e : xs.reverse.getD j 0 = xs.getD (xs.length - 1 - j) 0 := by
          have : xs.length - 1 - j < xs.length := by omega
          simp [List.getElem?_reverse, hj, this]
        rw [e]
        split
        · rfl
        · congr 1; omega

end Go.Proofs.Ytmipppnioanjeaa
