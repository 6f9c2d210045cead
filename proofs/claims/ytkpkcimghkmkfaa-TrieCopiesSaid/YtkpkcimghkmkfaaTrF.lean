/-
  Layer 6 (trie): awake, the chapter's example; what a nil table of texts answers.
-/
import Derived.Test.YtkpkcimghkmkfaaTrE
namespace Go.Proofs.Ytkpkcimghkmkfaa
open Go.RowKit

theorem count_lt (k : Nat) : ∀ n, ((List.range n).filter fun a => decide (a < k)).length = min n k := by
  intro n
  induction n with
  | zero => simp
  | succ n ih =>
    rw [List.range_succ, List.filter_append, List.length_append, ih]
    by_cases h : n < k
    · simp [h]; omega
    · simp [h]; omega

theorem cnt_awake : cntB 0 (setR (setR (fun _ => 0) 5 600 1) 300 310 0) = 3 := by
  unfold cntB
  have hs : ∀ a, a < 4352 → decide (a < 3) = apartB 0 (setR (setR (fun _ => 0) 5 600 1) 300 310 0) a := by
    intro a _
    rw [Bool.eq_iff_iff, apartB_iff, decide_eq_true_iff]
    constructor
    · intro h
      have h3 : a = 0 ∨ a = 1 ∨ a = 2 := by omega
      rcases h3 with rfl | rfl | rfl
      · exact ⟨5, by omega, by simp [setR]⟩
      · exact ⟨0, by omega, by simp [setR]⟩
      · exact ⟨0, by omega, by simp [setR]⟩
    · rintro ⟨j, hj, h⟩
      unfold setR at h
      by_cases e : a < 3
      · exact e
      · rw [if_neg (by omega), if_neg (by omega)] at h
        exact absurd rfl h
  rw [count_same _ _ 4352 hs, count_lt]
  rfl

set_option maxRecDepth 100000 in
set_option maxHeartbeats 4000000 in
theorem awake_any (w : World) : Calls Try.prog 11 #[] w fun e w' => e = .returned (.bool true) ∧ Below w.heap.size w w' := by
  obtain ⟨F, hF⟩ : ∃ F, F = setR (setR (fun _ => 0) 5 600 1) 300 310 0 := ⟨_, rfl⟩
  have e1 : F 5 = 1 := by rw [hF]; simp [setR]
  have e2 : F 300 = 0 := by rw [hF]; simp [setR]
  have e3 : F 600 = 1 := by rw [hF]; simp [setR]
  have e4 : F 601 = 0 := by rw [hF]; simp [setR]
  have e5 : cntB 0 F = 3 := by rw [hF]; exact cnt_awake
  have HF := Lib.hid hF; clear hF
  have E1 := Lib.hid e1; clear e1
  have E2 := Lib.hid e2; clear e2
  have E3 := Lib.hid e3; clear e3
  have E4 := Lib.hid e4; clear e4
  have E5 := Lib.hid e5; clear e5
  go_enter Try.func11, Try.ntmps11
  go_wp2_with fail
  refine (new_any _ rfl 0 w).mono ?_
  rintro e w1 ⟨b, m, rfl, hb, hm, hT, hbl⟩
  have HT := Lib.hid hT; clear hT
  go_wp2_with fail
  refine (set_ok _ rfl b m 0 _ 5 600 1 w1 HT.out (by omega) (by omega)).mono ?_
  rintro e w2 ⟨rfl, hT2, hk2⟩
  have HT2 := Lib.hid hT2; clear hT2
  go_wp2_with fail
  refine (set_ok _ rfl b m 0 _ 300 310 0 w2 HT2.out (by omega) (by omega)).mono ?_
  rintro e w3 ⟨rfl, hT3, hk3⟩
  rw [← HF.out] at hT3
  have HT3 := Lib.hid hT3; clear hT3
  have hk13 := hk2.trans hk3 (fun _ _ h => h)
  have hb3 : Below w.heap.size w w3 := hbl.trans (hk13.below hbl.size (fun j hj => by omega))
  clear HT HT2 hk2 hk3 hk13 hbl
  go_wp2_with fail
  refine (get_in _ rfl b m 0 F 5 w3 HT3.out (by omega)).mono ?_
  rintro e w4 ⟨rfl, hb4⟩
  rw [E1.out]
  have HT4 := Lib.hid (HT3.out.keep (Keep.of_below (S := fun _ => False) hb4 rfl) (fun h => h) (fun h => h))
  have hbb4 := hb3.trans (hb4.mono hb3.size)
  go_wp2_with fail
  refine (get_in _ rfl b m 0 F 300 w4 HT4.out (by omega)).mono ?_
  rintro e w5 ⟨rfl, hb5⟩
  rw [E2.out]
  have HT5 := Lib.hid (HT4.out.keep (Keep.of_below (S := fun _ => False) hb5 rfl) (fun h => h) (fun h => h))
  have hbb5 := hbb4.trans (hb5.mono hbb4.size)
  go_wp2_with fail
  refine (get_in _ rfl b m 0 F 600 w5 HT5.out (by omega)).mono ?_
  rintro e w6 ⟨rfl, hb6⟩
  rw [E3.out]
  have HT6 := Lib.hid (HT5.out.keep (Keep.of_below (S := fun _ => False) hb6 rfl) (fun h => h) (fun h => h))
  have hbb6 := hbb5.trans (hb6.mono hbb5.size)
  go_wp2_with fail
  refine (get_in _ rfl b m 0 F 601 w6 HT6.out (by omega)).mono ?_
  rintro e w7 ⟨rfl, hb7⟩
  rw [E4.out]
  have HT7 := Lib.hid (HT6.out.keep (Keep.of_below (S := fun _ => False) hb7 rfl) (fun h => h) (fun h => h))
  have hbb7 := hbb6.trans (hb7.mono hbb6.size)
  go_wp2_with fail
  refine (blocks_any _ rfl b m 0 F w7 HT7.out).mono ?_
  rintro e w8 ⟨rfl, rfl⟩
  rw [E5.out]
  go_wp2
  go_ret
  exact ⟨rfl, hbb7⟩

/-! a nil table of texts -/
set_option maxHeartbeats 1000000 in
theorem nil_set (fr up : Int) (s : ByteArray) (w : World) :
    Calls Try.prog 22 #[.pointer none, .int .i32 fr, .int .i32 up, .string s] w fun e w' => e = .returned (.int .i64 2) ∧ w = w' := by
  go_enter Try.func22, Try.ntmps22
  go_wp2
  go_ret
  exact ⟨rfl, rfl⟩
set_option maxHeartbeats 1000000 in
theorem nil_get (r : Int) (w : World) :
    Calls Try.prog 23 #[.pointer none, .int .i32 r] w fun e w' => e = .returned (.string ByteArray.empty) ∧ w = w' := by
  go_enter Try.func23, Try.ntmps23
  go_wp2
  go_ret
  exact ⟨rfl, rfl⟩
set_option maxHeartbeats 1000000 in
theorem nil_blocks (w : World) :
    Calls Try.prog 24 #[.pointer none] w fun e w' => e = .returned (.int .i64 0) ∧ w = w' := by
  go_enter Try.func24, Try.ntmps24
  go_wp2
  go_ret
  exact ⟨rfl, rfl⟩
set_option maxHeartbeats 1000000 in
theorem nil_copy (w : World) :
    Calls Try.prog 25 #[.pointer none] w fun e w' => e = .returned (.pointer none) ∧ w = w' := by
  go_enter Try.func25, Try.ntmps25
  go_wp2
  go_ret
  exact ⟨rfl, rfl⟩
set_option maxHeartbeats 1000000 in
theorem nil_all (w : World) :
    Calls Try.prog 21 #[.pointer none] w fun e w' => e = .returned (.func (.func 35) #[] #[.pointer (some ⟨w.heap.size, 0, none⟩), .pointer (some ⟨w.heap.size + 1, 0, none⟩)]) ∧
      w'.cell? ⟨w.heap.size, 0, none⟩ = some (.slice none 0 0) ∧ w'.cell? ⟨w.heap.size + 1, 0, none⟩ = some (.slice none 0 0) ∧ Below w.heap.size w w' := by
  go_enter Try.func21, Try.ntmps21
  go_wp2
  go_ret
  exact ⟨rfl, by simp, by simp, ((Below.refl _ _).alloc (Nat.le_refl _) _).alloc (by simp) _⟩

end Go.Proofs.Ytkpkcimghkmkfaa
