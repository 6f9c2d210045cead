/-
  Contract of the library's rotate over characters.
-/
import Derived.Test.YtplobpelhcagpaaDoorMuE
namespace Go.Proofs.YtplobpelhcagpaaDoor
open Go.RowKit Pl14


theorem rot_gt (d : Nat → Int) (m i j p : Nat) (hi : i ≤ m) (h : j < i) (hj : 0 < j) : rotF (swRange d (m - i) m j) (m - (i - j)) m (m + j) p = rotF d (m - i) m (m + j) p := by
  unfold rotF swRange
  (repeat' split) <;> first | rfl | (exfalso; omega) | (congr 1; omega)
theorem rot_lt (d : Nat → Int) (m i j p : Nat) (hi : i ≤ m) (h : i < j) (h0 : 0 < i) : rotF (swRange d (m - i) (m + j - i) i) (m - i) m (m + (j - i)) p = rotF d (m - i) m (m + j) p := by
  unfold rotF swRange
  (repeat' split) <;> first | rfl | (exfalso; omega) | (congr 1; omega)
theorem rot_eq (d : Nat → Int) (m i p : Nat) (hi : i ≤ m) : swRange d (m - i) m i p = rotF d (m - i) m (m + i) p := by
  unfold rotF swRange
  (repeat' split) <;> first | rfl | (exfalso; omega) | (congr 1; omega)

set_option maxHeartbeats 1600000 in
theorem rotate_any (blk off N cap a m b : Nat) (d : Nat → Int) (cmp : Value) (w : World) (hr : RowF .i32 w blk off N d) (ha : a < m) (hb : m < b) (hbN : b ≤ N) (hN : N ≤ 1000000) (hcap : N ≤ cap) (hblk : blk < w.heap.size) :
    Calls Tryd.prog 74 #[.slice (some ⟨blk, off, none⟩) N cap, .int .i64 a, .int .i64 m, .int .i64 b, cmp] w fun e w' =>
      e = .returned (.tuple #[]) ∧ RowF .i32 w' blk off N (rotF d a m b) ∧ KeepR blk off N w w' := by
  go_enter Tryd.func74, Tryd.ntmps74
  go_wp2
  go_loopw [10, 11] (fun x y wr => ∃ (i j : Nat) (D : Nat → Int), 0 < i ∧ 0 < j ∧ i ≤ m ∧ m + j ≤ b ∧ x = .int .i64 i ∧ y = .int .i64 j ∧ RowF .i32 wr blk off N D ∧ KeepR blk off N w wr ∧ ∀ p, rotF D (m - i) m (m + j) p = rotF d a m b p)
    (fun x y _ => (intOf x).toNat + (intOf y).toNat)
  case atStart =>
    refine ⟨m - a, b - m, d, by omega, by omega, by omega, by omega, ?_, ?_, hr, KeepR.refl _ _ _ _, ?_⟩
    · rw [Int.ofNat_sub (by omega)]
    · rw [Int.ofNat_sub (by omega)]
    · intro p; rw [show m - (m - a) = a from by omega, show m + (b - m) = b from by omega]
  case round =>
    obtain ⟨i, j, D, hi, hj, him, hjb, rfl, rfl, hrow, hkeep, hrot⟩ := hrel
    have HR := Lib.hid hrot; clear hrot
    have HROW := Lib.hid hrow; clear hrow
    have hbw := hkeep.size
    rcases Nat.lt_trichotomy i j with hlt | heq | hgt
    · have hne : ((i : Int) != (j : Int)) = true := by simp; omega
      have hng : ¬ ((j : Int) < (i : Int)) := by omega
      go_wp2_with fail
      rw [show ((m : Int) - (i : Int)) = ((m - i : Nat) : Int) from by omega, show ((m : Int) + (j : Int) - (i : Int)) = ((m + j - i : Nat) : Int) from by omega]
      refine (swapRange_any blk off N cap (m - i) (m + j - i) i D cmp _ HROW.out (by omega) (by omega) hN hcap (by omega)).mono ?_
      rintro e w1 ⟨rfl, hrow1, hk1⟩
      have HROW1 := Lib.hid hrow1; clear hrow1
      go_wp2
      go_roundw
      case rel =>
        refine ⟨i, j - i, _, hi, by omega, him, by omega, rfl, ?_, HROW1.out, hkeep.trans hk1, ?_⟩
        · rw [Int.ofNat_sub (by omega)]
        · intro p; rw [rot_lt D m i j p him hlt hi]; exact HR.out p
      case measure => simp [intOf]; omega
    · subst heq
      have hne : ((i : Int) != (i : Int)) = false := by simp
      go_wp2_with fail
      rw [show ((m : Int) - (i : Int)) = ((m - i : Nat) : Int) from by omega]
      refine (swapRange_any blk off N cap (m - i) m i D cmp _ HROW.out (by omega) (by omega) hN hcap (by omega)).mono ?_
      rintro e w1 ⟨rfl, hrow1, hk1⟩
      go_wp2
      go_end0
      exact ⟨rfl, hrow1.congr (fun p _ => by rw [rot_eq D m i p him]; exact HR.out p), hkeep.trans hk1⟩
    · have hne : ((i : Int) != (j : Int)) = true := by simp; omega
      have hng : ((j : Int) < (i : Int)) := by omega
      go_wp2_with fail
      rw [show ((m : Int) - (i : Int)) = ((m - i : Nat) : Int) from by omega]
      refine (swapRange_any blk off N cap (m - i) m j D cmp _ HROW.out (by omega) (by omega) hN hcap (by omega)).mono ?_
      rintro e w1 ⟨rfl, hrow1, hk1⟩
      have HROW1 := Lib.hid hrow1; clear hrow1
      go_wp2
      go_roundw
      case rel =>
        refine ⟨i - j, j, _, by omega, hj, by omega, by omega, ?_, rfl, HROW1.out, hkeep.trans hk1, ?_⟩
        · rw [Int.ofNat_sub (by omega)]
        · intro p; rw [rot_gt D m i j p him hgt hj]; exact HR.out p
      case measure => simp [intOf]; omega

end Go.Proofs.YtplobpelhcagpaaDoor
