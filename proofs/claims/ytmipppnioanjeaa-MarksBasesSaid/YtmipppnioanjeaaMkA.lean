/-
  Contracts of the small functions of layer 14: Class, mark, Same.
-/
import Derived.Test.YtmipppnioanjeaaProg
import Derived.Test.YtmipppnioanjeaaPl14
import Derived.Test.YtmipppnioanjeaaLibB
import Derived.Deep.QuietTactic
import Derived.BigQuiet
import Derived.Outline
namespace Go.Proofs.Ytmipppnioanjeaa
open Go.RowKit Pl14

set_option maxHeartbeats 400000 in
theorem class_any (r : Int) (w : World) :
    Calls Try.prog 30 #[.agg #[], .int .i32 r] w fun e w' => e = .returned (.int .i64 (cls r)) ∧ Below w.heap.size w w' := by
  go_enter Try.func30, Try.ntmps30
  go_wp2
  all_goals
    go_ret
    refine ⟨ret_int ?_, (Below.refl _ _).alloc (Nat.le_refl _) _⟩
    simp only [beq_iff_eq, beq_eq_false_iff_ne] at *
    simp [cls, *]

set_option maxHeartbeats 400000 in
theorem mark_any (r : Int) (w : World) :
    Calls Try.prog 25 #[.int .i32 r] w fun e w' => e = .returned (.bool (decide (cls r ≠ 0))) ∧ Below w.heap.size w w' := by
  have h0 := cls_nonneg r
  go_enter Try.func25, Try.ntmps25
  go_wp2_with fail
  refine (class_any _ _).mono ?_
  rintro e w' ⟨rfl, hb⟩
  go_wp2_with fail
  go_ret
  exact ⟨ret_dec (by omega), hb⟩

set_option maxHeartbeats 800000 in
theorem same_any (va vb : Value) (xs ys : List Int) (w : World) (ha : Rd .i32 w va xs) (hb : Rd .i32 w vb ys) :
    Calls Try.prog 17 #[va, vb] w fun e w' => e = .returned (.bool (decide (xs = ys))) ∧ Below w.heap.size w w' := by
  obtain ⟨a, ca, rfl, ha1, ha2, _, ha3⟩ := ha
  obtain ⟨b, cb, rfl, hb1, hb2, _, hb3⟩ := hb
  by_cases hl : xs.length = ys.length
  · have HL := Lib.hid hl
    have hne : ((xs.length : Int) != (ys.length : Int)) = false := by simp; omega
    have hle1 : xs.length ≤ ys.length := by omega
    have hle2 : ys.length ≤ xs.length := by omega
    clear hl
    go_enter Try.func17, Try.ntmps17
    go_wp2
    go_loopw [5] (fun i wr => ∃ k : Nat, k ≤ xs.length ∧ i = .int .i64 k ∧ (∀ j, j < k → xs.getD j 0 = ys.getD j 0) ∧ Below w.heap.size w wr) (fun i _ => xs.length - (intOf i).toNat)
    case atStart => exact ⟨0, Nat.zero_le _, rfl, by intro j hj; omega, Below.refl _ _⟩
    case round =>
      obtain ⟨k, hk, rfl, hsame, hbl⟩ := hrel
      have HS := Lib.hid hsame; clear hsame
      by_cases hlt : k < xs.length
      · rcases ha3 with rfl | ⟨b1, o1, rfl, hc1⟩
        · simp at hlt
        rcases hb3 with rfl | ⟨b2, o2, rfl, hc2⟩
        · simp at hle1; simp [hle1] at hlt
        have c1 : wr.cell? ⟨b1, o1 + k, none⟩ = some (.int .i32 (xs.getD k 0)) := by rw [hbl.cell (cell_lt (hc1 k hlt))]; exact hc1 k hlt
        have c2 : wr.cell? ⟨b2, o2 + k, none⟩ = some (.int .i32 (ys.getD k 0)) := by rw [hbl.cell (cell_lt (hc2 k (by omega)))]; exact hc2 k (by omega)
        have hlt2 : k < ys.length := by omega
        clear hc1 hc2
        obtain ⟨x, hx⟩ : ∃ x, xs.getD k 0 = x := ⟨_, rfl⟩
        obtain ⟨y, hy⟩ : ∃ y, ys.getD k 0 = y := ⟨_, rfl⟩
        rw [hx] at c1; rw [hy] at c2
        have HX := Lib.hid hx; clear hx
        have HY := Lib.hid hy; clear hy
        by_cases hxy : x = y
        · subst hxy
          have hb' : (x != x) = false := by simp
          go_wp2
          go_quiet (fail)
          go_wp2
          go_roundw
          case rel =>
            refine ⟨k + 1, by omega, by go_num, ?_, hbl.drewN _⟩
            intro j hj
            by_cases hjk : j = k
            · subst hjk; rw [HX.out, HY.out]
            · exact HS.out j (by omega)
          case measure => simp [intOf]; omega
        · have hb' : (x != y) = true := by simp [hxy]
          go_wp2
          go_quiet (fail)
          go_wp2
          go_ret
          exact ⟨ret_bool (by simp; intro h; subst h; exact hxy (HX.out.symm.trans HY.out)), hbl.drewN _⟩
      · go_wp2
        go_ret
        refine ⟨ret_bool ?_, hbl⟩
        simp
        apply List.ext_getElem HL.out
        intro j h1 h2
        have := HS.out j (by omega)
        simpa [List.getD_eq_getElem?_getD, h1, h2] using this
  · have hne : ((xs.length : Int) != (ys.length : Int)) = true := by simp; omega
    go_enter Try.func17, Try.ntmps17
    go_wp2
    go_ret
    exact ⟨ret_bool (by simp; intro h; exact hl (by rw [h])), Below.refl _ _⟩

theorem rune : Elem Try.prog 22 21 .i32 4 := Elem.mk' Try.underlying22 (by kernel_rfl)
theorem intE : Elem Try.prog 39 3 .i64 8 := Elem.mk' Try.underlying39 (by kernel_rfl)

set_option maxHeartbeats 400000 in
theorem small_any (w : World) : Calls Try.prog 11 #[] w fun e w' => e = .returned (.iface 52 (.agg #[])) ∧ w = w' := by
  go_enter Try.func11, Try.ntmps11
  go_wp2
  go_ret
  exact ⟨rfl, rfl⟩

end Go.Proofs.Ytmipppnioanjeaa
