/-
  The law MarksBack, walked.
-/
import Derived.Test.YtmipppnioanjeaaMkW
import Derived.Test.YtmipppnioanjeaaMkR
namespace Go.Proofs.Ytmipppnioanjeaa
open Go.RowKit Go.Shelf Pl14

set_option maxRecDepth 100000 in
set_option maxHeartbeats 8000000 in
theorem back_walk (vl : Value) (xs : List Int) (w : World) (hl : Rd .i32 w vl xs) (hsp : ∀ x n c, vl = .slice (some x) n c → c ≠ 0 → ∃ b o, x = ⟨b, o, none⟩) :
    Calls Try.prog 4 #[vl] w fun e w' => e = .returned (.bool true) ∧ Below w.heap.size w w' := by
  have hl' := hl
  obtain ⟨a, ca, rfl, ha1, ha2, ha0, ha3⟩ := hl'
  have HL := Lib.hid hl; clear hl
  have HSP := Lib.hid hsp; clear hsp
  by_cases hbig : 300 < xs.length
  · have hbg : (300 : Int) < (xs.length : Int) := by omega
    clear ha3
    go_enter Try.func4, Try.ntmps4
    go_wp2_with fail
    refine (awake_any _).mono ?_
    rintro e w1 ⟨rfl, hb1⟩
    go_wp2
    go_ret
    exact ⟨rfl, hb1⟩
  · have hN : xs.length ≤ 300 := by omega
    have hNi : ¬ (300 : Int) < (xs.length : Int) := by omega
    have HA := Lib.hid ha3; clear ha3 hbig
    have HA0 := Lib.hid ha0; clear ha0
    have b1 := behind_length xs
    have b2 := ahead_length xs
    have b3 := ahead_length (behind xs)
    have b4 := behind_length (Pl14.ahead xs)
    rw [held_behind_reverse] at b3
    rw [held_ahead] at b4
    simp at b3 b4
    have l1 : (behind xs).length ≤ 300 := by omega
    have l2 : (Pl14.ahead xs).length ≤ 300 := by omega
    have l3 : (heldL xs).length ≤ xs.length := by omega
    have l4 : (heldL xs.reverse).length ≤ xs.length := by omega
    have e1 : (((behind xs).length : Int) + ((heldL xs).length : Int) != (xs.length : Int)) = false := by simp; omega
    have e2 : (((Pl14.ahead xs).length : Int) + ((heldL xs.reverse).length : Int) != (xs.length : Int)) = false := by simp; omega
    have A1 := Lib.hid (ahead_behind xs)
    have A2 := Lib.hid (behind_ahead xs)
    obtain ⟨n, hn⟩ : ∃ n, (heldL xs).length = n := ⟨_, rfl⟩
    obtain ⟨k, hk⟩ : ∃ k, (heldL xs.reverse).length = k := ⟨_, rfl⟩
    rw [hn] at l3 e1 A1
    rw [hk] at l4 e2 A2
    obtain ⟨q, hq⟩ : ∃ q : Nat, IntKind.i64.wrap ((xs.length : Int) - (n : Int)) = (q : Int) := ⟨xs.length - n, by rw [IntWalk.i64_in _ (by omega)]; omega⟩
    have hq' : xs.length - n = q := by rw [IntWalk.i64_in _ (by omega)] at hq; omega
    rw [hq'] at A1
    have HQ := Lib.hid hq'
    have hqN : q ≤ xs.length := by omega
    clear hq' b1 b2 b3 b4
    have HN := Lib.hid hn; clear hn
    have HK := Lib.hid hk; clear hk
    go_enter Try.func4, Try.ntmps4
    go_wp2_with fail
    refine (small_any _).mono ?_
    rintro e w1 ⟨rfl, rfl⟩
    go_wp2_with fail
    refine (behind_any _ xs _ HL.out (by omega)).mono ?_
    rintro e w1 ⟨o1, rfl, ho1, hb1⟩
    rw [HN.out]
    obtain ⟨a1, c1, rfl, _, _, _⟩ := ho1.shape
    have HO1 := Lib.hid ho1; clear ho1
    go_wp2_with fail
    refine (small_any _).mono ?_
    rintro e w2 ⟨rfl, rfl⟩
    go_wp2_with fail
    refine (ahead_any _ (behind xs) _ HO1.out.rd (by omega)).mono ?_
    rintro e w2 ⟨o2, rfl, ho2, hb2⟩
    rw [held_behind_reverse, A1.out] at *
    obtain ⟨a2, c2, rfl, _, _, _⟩ := ho2.shape
    have HO2 := Lib.hid ho2; clear ho2
    have hbb2 : Below w.heap.size w w2 := hb1.trans (hb2.mono hb1.size)
    go_wp2_with fail
    refine (small_any _).mono ?_
    rintro e w3 ⟨rfl, rfl⟩
    go_wp2_with fail
    refine (ahead_any _ xs _ (HL.out.mono hbb2 rfl) (by omega)).mono ?_
    rintro e w3 ⟨o3, rfl, ho3, hb3⟩
    rw [HK.out]
    obtain ⟨a3, c3, rfl, _, _, _⟩ := ho3.shape
    have HO3 := Lib.hid ho3; clear ho3
    have hbb3 : Below w.heap.size w w3 := hbb2.trans (hb3.mono hbb2.size)
    go_wp2_with fail
    refine (small_any _).mono ?_
    rintro e w4 ⟨rfl, rfl⟩
    go_wp2_with fail
    refine (behind_any _ (Pl14.ahead xs) _ HO3.out.rd (by omega)).mono ?_
    rintro e w4 ⟨o4, rfl, ho4, hb4⟩
    rw [held_ahead, A2.out] at *
    obtain ⟨a4, c4, rfl, _, _, _⟩ := ho4.shape
    have HO4 := Lib.hid ho4; clear ho4
    have hbb4 : Below w.heap.size w w4 := hbb3.trans (hb4.mono hbb3.size)
    have hrd2 : Rd .i32 w4 (.slice a2 (xs.take q).length c2) (xs.take q) := (HO2.out.rd.mono hb3 rfl).mono hb4 rfl
    have hl2 : (xs.take q).length = q := by simp; omega
    have hl4 : (xs.drop k).length = xs.length - k := by simp
    rw [hl2] at hrd2
    have HR2 := Lib.hid hrd2; clear hrd2 hl2
    have hrd4 := HO4.out.rd
    rw [hl4] at hrd4
    have HR4 := Lib.hid hrd4; clear hrd4 hl4
    go_wp2_with fail
    refine (same_any _ _ (xs.take q) (xs.take q) _ HR2.out ((HL.out.mono hbb4 rfl).take hqN)).mono ?_
    rintro e w5 ⟨rfl, hbs1⟩
    rw [show decide (xs.take q = xs.take q) = true from by simp]
    have hbb5 : Below w.heap.size w w5 := hbb4.trans (hbs1.mono hbb4.size)
    by_cases hca : ca = k
    · have hkN : xs.length = k := by omega
      have hD0 : xs.drop k = [] := List.drop_eq_nil_of_le (by omega)
      obtain rfl : k = ca := hca.symm
      have hz : xs.length - k = 0 := by omega
      have HR4' := HR4.out.mono hbs1 rfl
      rw [hD0, hz] at HR4'
      go_wp2_with fail
      refine (same_any _ _ [] [] _ HR4' (by cases a with | none => exact Rd.nil _ _ | some x => exact rd_nil' _ _ _ _ (by omega))).mono ?_
      rintro e w6 ⟨rfl, hbs2⟩
      rw [show decide (([] : List Int) = []) = true from rfl]
      have hbb6 : Below w.heap.size w w6 := hbb5.trans (hbs2.mono hbb5.size)
      go_wp2_with fail
      refine (awake_any _).mono ?_
      rintro e w7 ⟨rfl, hb7⟩
      go_wp2
      go_ret
      exact ⟨rfl, hbb6.trans (hb7.mono hbb6.size)⟩
    · cases a with
      | none => exact absurd (HA0.out rfl) (by omega)
      | some x =>
        obtain ⟨b, o, rfl⟩ := HSP.out x _ _ rfl (by omega)
        have hkca : k < ca := by omega
        have HD : Rd .i32 w5 (.slice (some ⟨b, o + k, none⟩) (xs.length - k) (ca - k)) (xs.drop k) := by
          have := rd_sub (c := ca - k) ((HL.out.mono hbb5 rfl).cells) (f := k) (i := xs.length) l4 (Nat.le_refl _) (by omega) (by omega)
          rw [List.take_length] at this
          exact this
        have HD := Lib.hid HD
        go_wp2_with fail
        refine (same_any _ _ (xs.drop k) (xs.drop k) _ (by have := HR4.out.mono hbs1 rfl; exact this) HD.out).mono ?_
        rintro e w6 ⟨rfl, hbs2⟩
        rw [show decide (xs.drop k = xs.drop k) = true from by simp]
        have hbb6 : Below w.heap.size w w6 := hbb5.trans (hbs2.mono hbb5.size)
        go_wp2_with fail
        refine (awake_any _).mono ?_
        rintro e w7 ⟨rfl, hb7⟩
        go_wp2
        go_ret
        exact ⟨rfl, hbb6.trans (hb7.mono hbb6.size)⟩

end Go.Proofs.Ytmipppnioanjeaa
