/-
  Multi: characters' classes, the database, clones of characters.
-/
import Derived.Test.YtplobpelhcagpaaDoorProg
import Derived.Test.YtplobpelhcagpaaDoorPl14
import Derived.Test.YtplobpelhcagpaaDoorLibB
import Derived.Deep.QuietTactic
import Derived.Deep.RegionHeld3
import Derived.BigQuiet
import Derived.Outline
namespace Go.Proofs.YtplobpelhcagpaaDoor
open Go.RowKit Pl14

set_option maxHeartbeats 400000 in
theorem class_any (r : Int) (w : World) :
    Calls Tryd.prog 96 #[.agg #[], .int .i32 r] w fun e w' => e = .returned (.int .i64 (cls r)) ∧ Below w.heap.size w w' := by
  go_enter Tryd.func96, Tryd.ntmps96
  go_wp2
  all_goals
    go_ret
    refine ⟨ret_int ?_, (Below.refl _ _).alloc (Nat.le_refl _) _⟩
    simp only [beq_iff_eq, beq_eq_false_iff_ne] at *
    simp [cls, *]

set_option maxHeartbeats 400000 in
theorem class17_any (r : Int) (w : World) :
    Calls Tryd.prog 94 #[.agg #[], .int .i32 r] w fun e w' => e = .returned (.int .i64 (cls r)) ∧ Below w.heap.size w w' := by
  go_enter Tryd.func94, Tryd.ntmps94
  go_wp2_with fail
  refine (class_any _ _).mono ?_
  rintro e w1 ⟨rfl, hb⟩
  go_wp2
  go_ret
  exact ⟨rfl, ((Below.refl _ _).alloc (Nat.le_refl _) _).trans (hb.mono (by simp))⟩

theorem rune : Elem Tryd.prog 75 21 .i32 4 := Elem.mk' Tryd.underlying75 (by kernel_rfl)
theorem intE : Elem Tryd.prog 45 3 .i64 8 := Elem.mk' Tryd.underlying45 (by kernel_rfl)

set_option maxHeartbeats 400000 in
theorem small_any (w : World) : Calls Tryd.prog 13 #[] w fun e w' => e = .returned (.iface 85 (.agg #[])) ∧ w = w' := by
  go_enter Tryd.func13, Tryd.ntmps13
  go_wp2
  go_ret
  exact ⟨rfl, rfl⟩

theorem nilAhead_small (w : World) : (nilAhead 275 85 (.agg #[]) "Class").run Tryd.prog w = .ok (some false) w := by kernel_rfl
theorem method_small (w : World) : (method 275 85 (.agg #[]) "Class").run Tryd.prog w = .ok (94, .agg #[]) w := by kernel_rfl

set_option maxHeartbeats 800000 in
theorem clone_any (vl : Value) (xs : List Int) (w : World) (hl : Rd .i32 w vl xs) (hsz : xs.length ≤ 1000000) :
    Calls Tryd.prog 60 #[vl] w fun e w' => ∃ out, e = .returned out ∧ Own 21 .i32 w.heap.size w' out xs ∧ Below w.heap.size w w' := by
  obtain ⟨a, ca, rfl, hnil⟩ := hl.shape
  have he := fun w a l c => Lib.run_eql_slice_nil (P := Tryd.prog) w 75 21 a l c 0 0 Tryd.underlying75
  cases a with
  | none =>
    obtain ⟨rfl, rfl⟩ := hnil rfl
    go_enter Tryd.func60, Tryd.ntmps60
    go_wp2
    go_ret
    exact ⟨_, rfl, Own.nil _ _ _ _, Below.refl _ _⟩
  | some a =>
    have HL := Lib.hid hl; clear hl hnil
    go_enter Tryd.func60, Tryd.ntmps60
    have hO : Own 21 .i32 w.heap.size (w.alloc (.cells #[] 21)) (.slice (some ⟨w.heap.size, 0, none⟩) 0 0) [] := World.ownsRow_made w #[] 0 (Nat.le_refl _) (by simp) rfl
    have hb0 : Below w.heap.size w (w.alloc (.cells #[] 21)) := (Below.refl _ _).alloc (Nat.le_refl _) _
    go_wp2_with (at_builtin; refine wpList_appendS rune rfl _ _ rfl w.heap.size _ _ hO rfl _ _ (HL.out.mono hb0 rfl) rfl (by simp; omega) (by simp; omega) hb0.size ?_; intro v' w1 hown hg _)
    go_wp2
    go_ret
    exact ⟨_, rfl, hown, below_append' hb0 hb0.size hg (fun j hj => hO.lt j hj)⟩

end Go.Proofs.YtplobpelhcagpaaDoor
