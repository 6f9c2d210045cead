/-
  Contract of the library's symMerge over characters: one character to the right.
-/
import Derived.Test.YtplobpelhcagpaaDoorMuI
namespace Go.Proofs.YtplobpelhcagpaaDoor
open Go.RowKit Go.Shelf Pl14

set_option maxRecDepth 100000 in
set_option maxHeartbeats 4000000 in
theorem sym_right (blk off N cap a m b bx : Nat) (d : Nat → Int) (I : World → Prop) (hI : CmpInv bx blk I) (w : World) (hw : I w) (hr : RowF .i32 w blk off N d) (hab : a + 1 < m) (hbN : b ≤ N) (hN : N ≤ 1000000) (hcap : N ≤ cap) (hblk : blk < w.heap.size)
    (hrise : RiseF d a m) (hm : b = m + 1) :
    Calls Tryd.prog 73 #[.slice (some ⟨blk, off, none⟩) N cap, .int .i64 a, .int .i64 m, .int .i64 b, cmpV bx] w fun e w' =>
      e = .returned (.tuple #[]) ∧ ∃ d', RowF .i32 w' blk off N d' ∧ KeepR blk off N w w' ∧ Arr a b d d' ∧ RiseF d' a b := by
  unfold cmpV
  have HI := Lib.hid hI; clear hI
  have HW := Lib.hid hw; clear hw
  have HRISE := Lib.hid hrise; clear hrise
  have HR := Lib.hid hr; clear hr
  have e1 : ((m : Int) - (a : Int) == 1) = false := by simp; omega
  have e2 : ((b : Int) - (m : Int) == 1) = true := by simp; omega
  have HM := Lib.hid hm
  have hm1 : b ≤ m + 1 := by omega
  have hm2 : m + 1 ≤ b := by omega
  clear hm
  go_enter Tryd.func73, Tryd.ntmps73
  go_wp2
  go_loopw [14, 15, 16] (fun x y _ wr => ∃ (i j : Nat), a ≤ i ∧ i ≤ j ∧ j ≤ m ∧ x = .int .i64 i ∧ y = .int .i64 j ∧ RowF .i32 wr blk off N d ∧ KeepR blk off N w wr ∧ (∀ q, a ≤ q → q < i → cls (d q) ≤ cls (d m)) ∧ (∀ q, j ≤ q → q < m → cls (d m) < cls (d q)))
    (fun x y _ _ => (intOf y).toNat - (intOf x).toNat)
  case atStart => exact ⟨a, m, by omega, by omega, by omega, rfl, rfl, HR.out, KeepR.refl _ _ _ _, fun q _ _ => by omega, fun q _ _ => by omega⟩
  case round =>
    obtain ⟨i, j, hi1, hi2, hi3, rfl, rfl, hrow, hkeep, hlo, hhi⟩ := hrel
    have HROW := Lib.hid hrow; clear hrow
    have HLO := Lib.hid hlo; clear hlo
    have HHI := Lib.hid hhi; clear hhi
    have hbw := hkeep.size
    by_cases hlt : i < j
    · obtain ⟨h, hh⟩ : ∃ h : Nat, (((i : Int) + (j : Int)) / 2) = (h : Int) := ⟨(i + j) / 2, by omega⟩
      have hh1 : i ≤ h := by omega
      have hh2 : h < j := by omega
      obtain ⟨ca, fa⟩ := HROW.out m (by omega)
      obtain ⟨cb, fb⟩ := HROW.out h (by omega)
      obtain ⟨x, hx⟩ : ∃ x, d m = x := ⟨_, rfl⟩
      obtain ⟨y, hy⟩ : ∃ y, d h = y := ⟨_, rfl⟩
      rw [hx] at ca
      rw [hy] at cb
      have HX := Lib.hid hx; clear hx
      have HY := Lib.hid hy; clear hy
      have HWR := Lib.hid (HI.out.keep _ _ HW.out hkeep.keep)
      have i1 : (0 : Int) ≤ (h : Int) := by omega
      have i2 : (h : Int) < (N : Int) := by omega
      have i3 : (0 : Int) ≤ (m : Int) := by omega
      have i4 : (m : Int) < (N : Int) := by omega
      by_cases hxy : cls x - cls y < 0
      · have hdx : decide (cls x - cls y < 0) = true := decide_eq_true hxy
        go_wp2
        go_region_held3 (fun w' => w'.cell? ⟨blk, off + m, none⟩ = some (.int .i32 x) ∧ w'.cell? ⟨blk, off + h, none⟩ = some (.int .i32 y)) (first | go_keep | (refine ⟨?_, ?_⟩ <;> (rw [hb1.cell (by simp; omega)]; assumption)))
          (first | (go_at_call 70; refine (HI.out.cmp _ ?_ _ _).mono ?_; exact HI.out.keep _ _ HWR.out (Keep.of_drew _ _); rintro e w1 ⟨rfl, hb1⟩))
        have HROW1 := Lib.hid (HROW.out.drew.below hb1 (by simp; omega))
        have hk1 := (hkeep.trans (KeepR.of_drew _ _ _ _)).trans (KeepR.of_below hb1 rfl (by simp; omega))
        go_wp2
        go_roundw
        case rel =>
          refine ⟨i, h, hi1, by omega, by omega, rfl, rfl, HROW1.out, hk1, HLO.out, ?_⟩
          intro q hq1 hq2
          have h1 := HRISE.out h q (by omega) hq1 hq2
          rw [HY.out] at h1; rw [HX.out]; omega
        case measure => simp [intOf]; omega
      · have hdx : decide (cls x - cls y < 0) = false := decide_eq_false hxy
        go_wp2
        go_region_held3 (fun w' => w'.cell? ⟨blk, off + m, none⟩ = some (.int .i32 x) ∧ w'.cell? ⟨blk, off + h, none⟩ = some (.int .i32 y)) (first | go_keep | (refine ⟨?_, ?_⟩ <;> (rw [hb1.cell (by simp; omega)]; assumption)))
          (first | (go_at_call 70; refine (HI.out.cmp _ ?_ _ _).mono ?_; exact HI.out.keep _ _ HWR.out (Keep.of_drew _ _); rintro e w1 ⟨rfl, hb1⟩))
        have HROW1 := Lib.hid (HROW.out.drew.below hb1 (by simp; omega))
        have hk1 := (hkeep.trans (KeepR.of_drew _ _ _ _)).trans (KeepR.of_below hb1 rfl (by simp; omega))
        go_wp2
        go_roundw
        case rel =>
          refine ⟨h + 1, j, by omega, by omega, hi3, by go_num, rfl, HROW1.out, hk1, ?_, HHI.out⟩
          intro q hq1 hq2
          have h1 := HRISE.out q h hq1 (by omega) (by omega)
          rw [HY.out] at h1; rw [HX.out]; omega
        case measure => simp [intOf]; omega
    · have HU := Lib.hid (merge_down HRISE.out hi1 (by omega) HLO.out (fun q h1 h2 => HHI.out q (by omega) h2))
      go_wp2
      obtain ⟨wo, rfl⟩ : ∃ wo : World, wo = wr := ⟨_, rfl⟩
      go_loopw [17] (fun x wr => ∃ (k : Nat), i ≤ k ∧ k ≤ m ∧ x = .int .i64 k ∧ RowF .i32 wr blk off N (rotF d k m (m + 1)) ∧ KeepR blk off N w wr) (fun x _ => (intOf x).toNat)
      case atStart => exact ⟨m, by omega, Nat.le_refl _, rfl, HROW.out.congr (fun p _ => (rotF_none d m p).symm), hkeep⟩
      case round =>
        clear hkeep hbw HROW
        obtain ⟨k, hk1, hk2, rfl, hrow, hkeep⟩ := hrel
        have HROW := Lib.hid hrow; clear hrow
        have hbw := hkeep.size
        by_cases hki : i < k
        · obtain ⟨k', hk'⟩ : ∃ k' : Nat, IntKind.i64.wrap ((k : Int) - 1) = (k' : Int) := ⟨k - 1, by rw [IntWalk.i64_in _ (by omega)]; omega⟩
          have hk'' : k = k' + 1 := by rw [IntWalk.i64_in _ (by omega)] at hk'; omega
          have j1 : (0 : Int) ≤ (k : Int) := by omega
          have j2 : (k : Int) < (N : Int) := by omega
          have j3 : (0 : Int) ≤ (k' : Int) := by omega
          have j4 : (k' : Int) < (N : Int) := by omega
          have HK := Lib.hid hk''; clear hk''
          obtain ⟨ca, fa⟩ := HROW.out k (by omega)
          obtain ⟨cb, fb⟩ := HROW.out k' (by omega)
          obtain ⟨x, hx⟩ : ∃ x, rotF d k m (m + 1) k = x := ⟨_, rfl⟩
          obtain ⟨y, hy⟩ : ∃ y, rotF d k m (m + 1) k' = y := ⟨_, rfl⟩
          rw [hx] at ca
          rw [hy] at cb
          have HX := Lib.hid hx; clear hx
          have HY := Lib.hid hy; clear hy
          have hkk : k ≠ k' := by have := HK.out; omega
          go_wp2
          go_region
          go_wp2
          go_roundw
          case rel =>
            have hs := HROW.out.swap k k' (by omega) (by omega)
            rw [HX.out, HY.out] at hs
            refine ⟨k', by have := HK.out; omega, by have := HK.out; omega, rfl, ?_, ?_⟩
            · refine (hs.congr (fun p _ => ?_)).drew
              rw [HK.out]; exact rotF_down d m k' p (by have := HK.out; omega)
            · exact (hkeep.trans (KeepR.swap wr blk off N _ _ _ _ (by omega) (by omega))).trans (KeepR.of_drew _ _ _ _)
          case measure => have := HK.out; simp [intOf]; omega
        · go_wp2
          refine bodyPost_ret (results_none rfl _ _ _) rfl ?_
          obtain rfl : i = k := by omega
          rw [HM.out]
          exact ⟨rfl, _, HROW.out, hkeep, HU.out.1, HU.out.2⟩

end Go.Proofs.YtplobpelhcagpaaDoor
