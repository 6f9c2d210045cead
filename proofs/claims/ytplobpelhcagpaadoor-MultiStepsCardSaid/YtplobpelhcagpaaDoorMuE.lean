/-
  Contracts of the library's stable sort over characters: swapRange, rotate, ..
-/
import Derived.Test.YtplobpelhcagpaaDoorMsA
import Derived.Test.YtplobpelhcagpaaDoorLibR
import Derived.BigRegion
namespace Go.Proofs.YtplobpelhcagpaaDoor
open Go.RowKit Pl14

def swRange (d : Nat → Int) (a b n : Nat) : Nat → Int := fun p => if a ≤ p ∧ p < a + n then d (b + (p - a)) else if b ≤ p ∧ p < b + n then d (a + (p - b)) else d p

theorem swRange_step (d : Nat → Int) (a b k p : Nat) (h : a + k < b) : swapF (swRange d a b k) (a + k) (b + k) p = swRange d a b (k + 1) p := by
  unfold swapF swRange
  (repeat' split) <;> first | rfl | (exfalso; omega) | (congr 1; omega)

set_option maxHeartbeats 1600000 in
theorem swapRange_any (blk off N cap a b n : Nat) (d : Nat → Int) (cmp : Value) (w : World) (hr : RowF .i32 w blk off N d) (ha : a + n ≤ b) (hb : b + n ≤ N) (hN : N ≤ 1000000) (hcap : N ≤ cap) (hblk : blk < w.heap.size) :
    Calls Tryd.prog 75 #[.slice (some ⟨blk, off, none⟩) N cap, .int .i64 a, .int .i64 b, .int .i64 n, cmp] w fun e w' =>
      e = .returned (.tuple #[]) ∧ RowF .i32 w' blk off N (swRange d a b n) ∧ KeepR blk off N w w' := by
  go_enter Tryd.func75, Tryd.ntmps75
  go_wp2
  go_loopw [10] (fun i wr => ∃ k : Nat, k ≤ n ∧ i = .int .i64 k ∧ RowF .i32 wr blk off N (swRange d a b k) ∧ KeepR blk off N w wr) (fun i _ => n - (intOf i).toNat)
  case atStart => exact ⟨0, Nat.zero_le _, rfl, hr.congr (by intro j _; unfold swRange; rw [if_neg (by omega), if_neg (by omega)]), KeepR.refl _ _ _ _⟩
  case round =>
    obtain ⟨k, hk, rfl, hrow, hkeep⟩ := hrel
    have HROW := Lib.hid hrow; clear hrow
    by_cases hlt : k < n
    · obtain ⟨ca, fa⟩ := HROW.out (a + k) (by omega)
      obtain ⟨cb, fb⟩ := HROW.out (b + k) (by omega)
      generalize hx : swRange d a b k (a + k) = x at ca
      generalize hy : swRange d a b k (b + k) = y at cb
      have HX := Lib.hid hx; clear hx
      have HY := Lib.hid hy; clear hy
      go_wp2
      go_region
      go_wp2
      go_roundw
      case rel =>
        refine ⟨k + 1, by omega, by go_num, ?_, ?_⟩
        · have hs := HROW.out.swap (a + k) (b + k) (by omega) (by omega)
          rw [HX.out, HY.out] at hs
          exact (hs.congr (fun p _ => swRange_step d a b k p (by omega))).drew
        · exact (hkeep.trans (KeepR.swap wr blk off N _ _ _ _ (by omega) (by omega))).trans (KeepR.of_drew _ _ _ _)
      case measure => simp [intOf]; omega
    · go_wp2
      go_end0
      obtain rfl : k = n := by omega
      exact ⟨rfl, HROW.out, hkeep⟩

end Go.Proofs.YtplobpelhcagpaaDoor
