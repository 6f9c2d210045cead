/-
  The law MarksMoves, walked.
-/
import Derived.Test.YtmipppnioanjeaaMkW
import Derived.Test.YtmipppnioanjeaaMkR
import Derived.Test.YtmipppnioanjeaaMkU
import Derived.Test.YtmipppnioanjeaaMkV
import Derived.Test.YtmipppnioanjeaaPl14b
namespace Go.Proofs.Ytmipppnioanjeaa
open Go.RowKit Go.Shelf Pl14

theorem Rd.drew {k : IntKind} {w : World} {v : Value} {xs : List Int} (h : Rd k w v xs) : Rd k w.drew v xs := h

theorem same_refl (va vb : Value) (xs : List Int) (w : World) (ha : Rd .i32 w va xs) (hb : Rd .i32 w vb xs) :
    Calls Try.prog 17 #[va, vb] w fun e w' => e = .returned (.bool true) ∧ Below w.heap.size w w' := by
  refine (same_any va vb xs xs w ha hb).mono ?_
  rintro e w' ⟨rfl, h⟩
  exact ⟨by simp, h⟩

set_option maxRecDepth 100000 in
set_option maxHeartbeats 8000000 in
theorem moves_walk (vl : Value) (xs : List Int) (w : World) (hl : Rd .i32 w vl xs) :
    Calls Try.prog 3 #[vl] w fun e w' => e = .returned (.bool true) ∧ Below w.heap.size w w' := by
  have hl' := hl
  obtain ⟨a, ca, rfl, ha1, ha2, ha0, ha3⟩ := hl'
  have HL := Lib.hid hl; clear hl
  by_cases hbig : 300 < xs.length
  · have hbg : (300 : Int) < (xs.length : Int) := by omega
    clear ha3 ha0
    go_enter Try.func3, Try.ntmps3
    go_wp2_with fail
    refine (awake_any _).mono ?_
    rintro e w1 ⟨rfl, hb1⟩
    go_wp2
    go_ret
    exact ⟨rfl, hb1⟩
  · have hN : xs.length ≤ 300 := by omega
    have hNi : ¬ (300 : Int) < (xs.length : Int) := by omega
    have HA := Lib.hid ha3; clear ha3 ha0 hbig
    have hn1 : (((heldL xs).length : Int) != ((heldL xs).length : Int)) = false := by simp
    have hn2 : (((heldL xs.reverse).length : Int) != ((heldL xs.reverse).length : Int)) = false := by simp
    go_enter Try.func3, Try.ntmps3
    go_wp2_with fail
    refine (small_any _).mono ?_
    rintro e w1 ⟨rfl, rfl⟩
    go_wp2_with fail
    refine (behind_any _ xs _ HL.out (by omega)).mono ?_
    rintro e w1 ⟨o1, rfl, ho1, hb1⟩
    have HO1 := Lib.hid ho1.rd; clear ho1
    go_wp2_with fail
    refine (refBehind_any _ xs _ (HL.out.mono hb1 rfl) (by omega)).mono ?_
    rintro e w2 ⟨o2, rfl, ho2, hb2⟩
    have HO2 := Lib.hid ho2.rd; clear ho2
    have hbb2 : Below w.heap.size w w2 := hb1.trans (hb2.mono hb1.size)
    go_wp2_with fail
    refine (small_any _).mono ?_
    rintro e w3 ⟨rfl, rfl⟩
    go_wp2_with fail
    refine (ahead_any _ xs _ (HL.out.mono hbb2 rfl) (by omega)).mono ?_
    rintro e w3 ⟨o3, rfl, ho3, hb3⟩
    have HO3 := Lib.hid ho3.rd; clear ho3
    have hbb3 : Below w.heap.size w w3 := hbb2.trans (hb3.mono hbb2.size)
    go_wp2_with fail
    refine (refAhead_any _ xs _ (HL.out.mono hbb3 rfl) (by omega)).mono ?_
    rintro e w4 ⟨o4, rfl, ho4, hb4⟩
    have HO4 := Lib.hid ho4.rd; clear ho4
    have hbb4 : Below w.heap.size w w4 := hbb3.trans (hb4.mono hbb3.size)
    go_wp2_with fail
    refine (small_any _).mono ?_
    rintro e w5 ⟨rfl, rfl⟩
    go_wp2_with fail
    refine (sort_any _ _ _ _ _ xs _ (cls_small _) (HL.out.mono hbb4 rfl) (by omega)).mono ?_
    rintro e w5 ⟨o5, rfl, ho5, hb5⟩
    have HO5 := Lib.hid ho5.rd; clear ho5
    have hbb5 : Below w.heap.size w w5 := hbb4.trans (hb5.mono hbb4.size)
    go_wp2_with fail
    refine (small_any _).mono ?_
    rintro e w6 ⟨rfl, rfl⟩
    go_wp2_with fail
    refine (sequences_any _ xs _ (HL.out.mono hbb5 rfl) (by omega)).mono ?_
    rintro e w6 ⟨o6, vs, rfl, ho6, hb6⟩
    have HO6 := Lib.hid ho6.rd; clear ho6
    have hbb6 : Below w.heap.size w w6 := hbb5.trans (hb6.mono hbb5.size)
    go_wp2_with fail
    have b56 := hb6
    have b46 : Below w4.heap.size w4 w6 := hb5.trans (b56.mono hb5.size)
    have b36 : Below w3.heap.size w3 w6 := hb4.trans (b46.mono hb4.size)
    have b26 : Below w2.heap.size w2 w6 := hb3.trans (b36.mono hb3.size)
    have b16 : Below w1.heap.size w1 w6 := hb2.trans (b26.mono hb2.size)
    refine (same_any _ _ (behind xs) (behind xs) _ (HO1.out.mono b16 rfl) (HO2.out.mono b26 rfl)).mono ?_
    rintro e w7 ⟨rfl, hb7⟩
    rw [show decide (behind xs = behind xs) = true from by simp]
    go_wp2_with fail
    refine (same_any _ _ (Pl14.ahead xs) (Pl14.ahead xs) _ ((HO3.out.mono b36 rfl).mono hb7 rfl) ((HO4.out.mono b46 rfl).mono hb7 rfl)).mono ?_
    rintro e w8 ⟨rfl, hb8⟩
    rw [show decide (Pl14.ahead xs = Pl14.ahead xs) = true from by simp]
    have hbb8 : Below w.heap.size w w8 := (hbb6.trans (hb7.mono hbb6.size)).trans (hb8.mono (Nat.le_trans hbb6.size hb7.size))
    go_wp2_with fail
    refine (refSort_any _ xs _ (HL.out.mono hbb8 rfl) (by omega)).mono ?_
    rintro e w9 ⟨o9, rfl, ho9, hb9⟩
    have HO9 := Lib.hid ho9.rd; clear ho9
    have hbb9 : Below w.heap.size w w9 := hbb8.trans (hb9.mono hbb8.size)
    go_wp2_with fail
    refine (same_any _ _ (msort xs) (msort xs) _ ((((HO5.out.mono b56 rfl).mono hb7 rfl).mono hb8 rfl).mono hb9 rfl) HO9.out).mono ?_
    rintro e w10 ⟨rfl, hb10⟩
    rw [show decide (msort xs = msort xs) = true from by simp]
    have hbb10 : Below w.heap.size w w10 := hbb9.trans (hb10.mono hbb9.size)
    go_wp2_with fail
    refine (cuts_any _ xs _ (HL.out.mono hbb10 rfl) (by omega)).mono ?_
    rintro e w11 ⟨o11, rfl, ho11, hb11⟩
    have HO11 := Lib.hid ho11.rd; clear ho11
    have hbb11 : Below w.heap.size w w11 := hbb10.trans (hb11.mono hbb10.size)
    have hq6 := Lib.hid (((((HO6.out.keep hb7 rfl).keep hb8 rfl).keep hb9 rfl).keep hb10 rfl).keep hb11 rfl)
    clear HO1 HO2 HO3 HO4 HO5 HO6 HO9 b16 b26 b36 b46 b56 hb1 hb2 hb3 hb4 hb5 hb6 hb7 hb8 hb9 hb10 hb11 hbb2 hbb3 hbb4 hbb5 hbb6 hbb8 hbb9 hbb10
    obtain ⟨M, hM⟩ : ∃ M, (cutsTo xs xs.length).length = M := ⟨_, rfl⟩
    have hl6 : (seqs xs).length = M := by
      have := (cutInv xs xs.length (Nat.le_refl _)).len
      rw [List.take_length] at this; rw [this]; exact hM
    have hl11 : (cutsI xs xs.length).length = M := by rw [cutsI_len]; exact hM
    have hM1 : M ≤ xs.length := by have := cutsI_length xs xs.length; omega
    obtain ⟨a6, c6, hv6, h6a, h6b⟩ := hq6.out.shape
    rw [hl6] at hv6 h6a
    subst hv6
    obtain ⟨a11, c11, hv11, h11a, h11b, _, h11c⟩ := HO11.out
    rw [hl11] at hv11 h11a h11c
    subst hv11
    have HM := Lib.hid hM; clear hM
    have HL6 := Lib.hid hl6; clear hl6
    have HL11 := Lib.hid hl11; clear hl11
    have HC11 := Lib.hid h11c; clear h11c
    have hlen : ((M : Int) != (M : Int)) = false := by simp
    go_wp2
    go_loopw [18, 19] (fun i _ wr => ∃ j : Nat, j ≤ M ∧ i = .int .i64 j ∧ Below w11.heap.size w11 wr) (fun i _ _ => M - (intOf i).toNat)
    case atStart => exact ⟨0, Nat.zero_le _, rfl, Below.refl _ _⟩
    case round =>
      obtain ⟨j, hj, rfl, hbl⟩ := hrel
      have hbs := hbl.size
      have hbb : Below w.heap.size w wr := hbb11.trans (hbl.mono hbb11.size)
      by_cases hlt : j < M
      · obtain ⟨c, t, e1, e2, e3, e4, e5, e6⟩ := seq_at xs j (by rw [HM.out]; exact hlt)
        rw [HM.out] at e6
        obtain ⟨b6, q6, cap6, u, h1, h2, h3⟩ := hq6.out.row j (by rw [HL6.out]; exact hlt)
        simp only [Value.slice.injEq] at h1
        obtain ⟨rfl, hMM, rfl⟩ := h1
        clear hMM
        rcases HC11.out with hnil | ⟨b11, q11, rfl, h11⟩
        · have := HL11.out; rw [hnil] at this; simp at this; omega
        rcases HA.out with hnil | ⟨b1, q1, rfl, hcl⟩
        · rw [hnil] at e2; simp at e2
        clear hcl
        have c6r : wr.cell? ⟨b6, q6 + j, none⟩ = some u := by rw [hbl.cell (cell_lt h2)]; exact h2
        have c11r : wr.cell? ⟨b11, q11 + j, none⟩ = some (.int .i64 (c : Int)) := by
          have := h11 j hlt
          rw [e1] at this
          rw [hbl.cell (cell_lt this)]; exact this
        have hru : Rd .i32 wr u ((xs.take t).drop c) := by rw [← e5]; exact h3.mono hbl rfl
        have HRU := Lib.hid hru; clear hru
        have hsub : Rd .i32 wr (.slice (some ⟨b1, q1 + c, none⟩) (t - c) (ca - c)) ((xs.take t).drop c) :=
          rd_sub ((HL.out.mono hbb rfl).cells) e3 e4 (by omega) (by omega)
        have HSUB := Lib.hid hsub; clear hsub
        have hb6 : b6 < wr.heap.size := cell_lt c6r
        have hb11 : b11 < wr.heap.size := cell_lt c11r
        have i1 : (0 : Int) ≤ (j : Int) := by omega
        have i2 : (j : Int) < (M : Int) := by omega
        have i3 : (0 : Int) ≤ (c : Int) := by omega
        have i4 : (c : Int) ≤ (t : Int) := by omega
        have i5 : (t : Int) ≤ (ca : Int) := by omega
        have hcac : ¬ ca = c := by omega
        obtain ⟨q, hq⟩ : ∃ q : Nat, IntKind.i64.wrap ((j : Int) + 1) = (q : Int) := ⟨j + 1, by rw [IntWalk.i64_in _ (by omega)]; omega⟩
        have hq' : q = j + 1 := by rw [IntWalk.i64_in _ (by omega)] at hq; omega
        rcases e6 with ⟨hjm, e6⟩ | ⟨hjm, e6⟩
        · have i6 : (0 : Int) ≤ (q : Int) := by omega
          have i7 : (q : Int) < (M : Int) := by omega
          have c11q : wr.cell? ⟨b11, q11 + q, none⟩ = some (.int .i64 (t : Int)) := by
            have := h11 (j + 1) hjm
            rw [e6] at this
            rw [hq', hbl.cell (cell_lt this)]; exact this
          have HQ := Lib.hid hq'
          clear h11 h2 h3 e1 e5 e6 hq'
          go_wp2
          go_region_held3 (fun w' => w'.cell? ⟨b6, q6 + j, none⟩ = some u ∧ w'.cell? ⟨b11, q11 + j, none⟩ = some (.int .i64 (c : Int))) (first | go_keep | (refine ⟨?_, ?_⟩ <;> (rw [hb.cell (by simp; omega)]; assumption)))
            (first | (go_at_call 17; refine (same_refl _ _ _ _ HRU.out.drew HSUB.out.drew).mono ?_; rintro e w' ⟨rfl, hb⟩))
          go_wp2
          go_roundw
          case rel => exact ⟨q, by have := HQ.out; omega, rfl, hbl.drew.trans (hb.mono (by simp; omega))⟩
          case measure => have := HQ.out; simp [intOf]; omega
        · subst e6
          have i7 : ¬ (q : Int) < (M : Int) := by omega
          have HQ := Lib.hid hq'
          clear h11 h2 h3 e1 e5 hq'
          go_wp2
          go_region_held3 (fun w' => w'.cell? ⟨b6, q6 + j, none⟩ = some u ∧ w'.cell? ⟨b11, q11 + j, none⟩ = some (.int .i64 (c : Int))) (first | go_keep | (refine ⟨?_, ?_⟩ <;> (rw [hb.cell (by simp; omega)]; assumption)))
            (first | (go_at_call 17; refine (same_refl _ _ _ _ HRU.out.drew HSUB.out.drew).mono ?_; rintro e w' ⟨rfl, hb⟩))
          go_wp2
          go_roundw
          case rel => exact ⟨q, by have := HQ.out; omega, rfl, hbl.drew.trans (hb.mono (by simp; omega))⟩
          case measure => have := HQ.out; simp [intOf]; omega
      · go_wp2_with fail
        refine (awake_any _).mono ?_
        rintro e w12 ⟨rfl, hb12⟩
        go_wp2
        go_ret
        exact ⟨rfl, hbb.trans (hb12.mono hbb.size)⟩

end Go.Proofs.Ytmipppnioanjeaa
