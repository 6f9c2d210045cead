/-
  slices.Sort at rune, turned from the kit's worked walks at int: cmp_isNaN_int, cmp_Less_int.
-/
import Derived.Sort.WalkA
import Derived.Test.YtkpkcimghkmkfaaProg
import Derived.Lib.Strings
import Derived.Lib.Walk
import Derived.Sort.Row
namespace Go.Proofs.Ytkpkcimghkmkfaa
open Go.Sort Go.RowKit

set_option maxHeartbeats 1000000 in
theorem so_cmp_isNaN (x : Int) (w : World) : Calls Try.prog 67 #[.int .i32 x] w fun e w' => e = .returned (.bool false) ∧ w' = w := by
  go_enter Try.func67, Try.ntmps67
  go_wp2
  go_ret
  exact ⟨by simp, rfl⟩

set_option maxHeartbeats 1000000 in
theorem so_cmp_Less (x y : Int) (w : World) : Calls Try.prog 57 #[.int .i32 x, .int .i32 y] w fun e w' => e = .returned (.bool (Sort.ltInt x y)) ∧ w' = w := by
  go_enter Try.func57, Try.ntmps57
  go_wp2_with (go_at_call 67; refine (so_cmp_isNaN _ _).mono ?_; rintro e w' ⟨rfl, rfl⟩)
  go_ret
  exact ⟨rfl, rfl⟩

end Go.Proofs.Ytkpkcimghkmkfaa
