/-
  Contract: marks.Ahead.
-/
import Derived.Test.YtmipppnioanjeaaMkM
namespace Go.Proofs.Ytmipppnioanjeaa
open Go.RowKit Pl14

set_option maxHeartbeats 1600000 in
theorem ahead_any (vl : Value) (xs : List Int) (w : World) (hl : Rd .i32 w vl xs) (hsz : xs.length ≤ 1000000) :
    Calls Try.prog 13 #[.iface 52 (.agg #[]), vl] w fun e w' => ∃ out, e = .returned (.tuple #[out, .int .i64 (heldL xs.reverse).length, .int .i64 0]) ∧
      Own 21 .i32 w.heap.size w' out (Pl14.ahead xs) ∧ Below w.heap.size w w' := by
  have HL := Lib.hid hl; clear hl
  go_enter Try.func13, Try.ntmps13
  go_wp2_with fail
  refine (clone_any _ _ _ HL.out hsz).mono ?_
  rintro e w1 ⟨back, rfl, ho1, hb1⟩
  go_wp2_with fail
  refine (reverse_any _ _ _ _ ho1 hsz).mono ?_
  rintro e w2 ⟨rfl, ho2, hk2⟩
  have hb2 : Below w.heap.size w w2 := hb1.trans (hk2.below hb1.size (fun j hj => (ho1.lt j hj).1))
  go_wp2_with fail
  refine (behind_any _ _ _ ho2.rd (by simpa using hsz)).mono ?_
  rintro e w3 ⟨out, rfl, ho3, hb3⟩
  have hb3' : Below w.heap.size w w3 := hb2.trans (hb3.mono hb2.size)
  have hlen : (behind xs.reverse).length ≤ 1000000 := by have := behind_length xs.reverse; simp at this; omega
  go_wp2_with fail
  refine (reverse_any _ _ _ _ ho3 hlen).mono ?_
  rintro e w4 ⟨rfl, ho4, hk4⟩
  go_wp2_with fail
  go_ret3
  refine ⟨_, rfl, ?_, hb3'.trans (hk4.below hb3'.size (fun j hj => by have := (ho3.lt j hj).1; have := hb2.size; omega))⟩
  exact ho4.mono (fun j hj => by have := (ho3.lt j hj).1; have := hb2.size; omega)

set_option maxHeartbeats 800000 in
theorem ahead_nil (vl : Value) (xs : List Int) (w : World) (hl : Rd .i32 w vl xs) (hsz : xs.length ≤ 1000000) :
    Calls Try.prog 13 #[.nilIface, vl] w fun e w' => e = .returned (.tuple #[.slice none 0 0, .int .i64 0, .int .i64 2]) ∧ Below w.heap.size w w' := by
  have HL := Lib.hid hl; clear hl
  go_enter Try.func13, Try.ntmps13
  go_wp2_with fail
  refine (clone_any _ _ _ HL.out hsz).mono ?_
  rintro e w1 ⟨back, rfl, ho1, hb1⟩
  go_wp2_with fail
  refine (reverse_any _ _ _ _ ho1 hsz).mono ?_
  rintro e w2 ⟨rfl, ho2, hk2⟩
  have hb2 : Below w.heap.size w w2 := hb1.trans (hk2.below hb1.size (fun j hj => (ho1.lt j hj).1))
  go_wp2_with fail
  refine (behind_nil _ _).mono ?_
  rintro e w3 ⟨rfl, rfl⟩
  go_wp2_with fail
  refine (reverse_any 0 _ [] _ (Own.nil _ _ _ _) (by simp)).mono ?_
  rintro e w4 ⟨rfl, ho4, hk4⟩
  go_wp2_with fail
  go_ret3
  exact ⟨rfl, hb2.trans (hk4.below hb2.size (fun j hj => by simp [Value.ownBlock] at hj))⟩

end Go.Proofs.Ytmipppnioanjeaa
