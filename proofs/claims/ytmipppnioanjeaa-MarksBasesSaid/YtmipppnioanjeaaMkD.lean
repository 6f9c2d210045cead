/-
  Contracts: marks.Behind, slices.Clone.
-/
import Derived.Test.YtmipppnioanjeaaMkC
namespace Go.Proofs.Ytmipppnioanjeaa
open Go.RowKit Pl14

set_option maxHeartbeats 800000 in
theorem behind_any (vl : Value) (xs : List Int) (w : World) (hl : Rd .i32 w vl xs) (hsz : xs.length ≤ 1000000) :
    Calls Try.prog 10 #[.iface 52 (.agg #[]), vl] w fun e w' => ∃ out, e = .returned (.tuple #[out, .int .i64 (heldL xs).length, .int .i64 0]) ∧
      Own 21 .i32 w.heap.size w' out (behind xs) ∧ Below w.heap.size w w' := by
  obtain ⟨a, ca, rfl, _⟩ := hl.shape
  have HL := Lib.hid hl; clear hl
  go_enter Try.func10, Try.ntmps10
  go_wp2_with fail
  refine (new_any _).mono ?_
  rintro e w1 ⟨rfl, hm, hb1⟩
  go_wp2_with fail
  refine (push_any w.heap.size (.slice none 0 0) _ [] xs w1 hm (Own.nil _ _ _ _) (by simp [Value.ownBlock]) (HL.out.mono hb1 rfl) (fun hx j hj => ⟨by have := HL.out.lt hx j hj; omega, by simp [Value.ownBlock]⟩) (by simpa using hsz)).mono ?_
  rintro e w2 ⟨out, hv', rfl, hr⟩
  obtain ⟨a', cap', rfl, _⟩ := hr.ownH.shape
  go_wp2_with fail
  refine (held_any _ _ _ _ _ hr.mover).mono ?_
  rintro e w3 ⟨rfl, rfl⟩
  go_wp2_with fail
  go_ret3
  refine ⟨_, rfl, hr.ownO.mono fun j hj => ?_, hb1.trans (hr.keep.below hb1.size ?_)⟩
  · have := (hr.ownO.lt j hj).1; have := hb1.size; omega
  · intro j hj
    rcases hj with hj | hj
    · omega
    · simp [Value.ownBlock] at hj

set_option maxHeartbeats 400000 in
theorem behind_nil (vl : Value) (w : World) :
    Calls Try.prog 10 #[.nilIface, vl] w fun e w' => e = .returned (.tuple #[.slice none 0 0, .int .i64 0, .int .i64 2]) ∧ w = w' := by
  go_enter Try.func10, Try.ntmps10
  go_wp2_with fail
  refine (new_nil _).mono ?_
  rintro e w1 ⟨rfl, rfl⟩
  go_wp2_with fail
  go_ret3
  exact ⟨rfl, rfl⟩

set_option maxHeartbeats 800000 in
theorem clone_any (vl : Value) (xs : List Int) (w : World) (hl : Rd .i32 w vl xs) (hsz : xs.length ≤ 1000000) :
    Calls Try.prog 26 #[vl] w fun e w' => ∃ out, e = .returned out ∧ Own 21 .i32 w.heap.size w' out xs ∧ Below w.heap.size w w' := by
  obtain ⟨a, ca, rfl, hnil⟩ := hl.shape
  have he := fun w a l c => Lib.run_eql_slice_nil (P := Try.prog) w 22 21 a l c 0 0 Try.underlying22
  cases a with
  | none =>
    obtain ⟨rfl, rfl⟩ := hnil rfl
    go_enter Try.func26, Try.ntmps26
    go_wp2
    go_ret
    exact ⟨_, rfl, Own.nil _ _ _ _, Below.refl _ _⟩
  | some a =>
    have HL := Lib.hid hl; clear hl hnil
    go_enter Try.func26, Try.ntmps26
    have hO : Own 21 .i32 w.heap.size (w.alloc (.cells #[] 21)) (.slice (some ⟨w.heap.size, 0, none⟩) 0 0) [] := World.ownsRow_made w #[] 0 (Nat.le_refl _) (by simp) rfl
    have hb0 : Below w.heap.size w (w.alloc (.cells #[] 21)) := (Below.refl _ _).alloc (Nat.le_refl _) _
    go_wp2_with (at_builtin; refine wpList_appendS rune rfl _ _ rfl w.heap.size _ _ hO rfl _ _ (HL.out.mono hb0 rfl) rfl (by simp; omega) (by simp; omega) hb0.size ?_; intro v' w1 hown hg _)
    go_wp2
    go_ret
    exact ⟨_, rfl, hown, below_append' hb0 hb0.size hg (fun j hj => hO.lt j hj)⟩

end Go.Proofs.Ytmipppnioanjeaa
