/-
  Multi: the walk of MultiNil.
-/
import Derived.Test.YtplobpelhcagpaaDoorMsR
namespace Go.Proofs.YtplobpelhcagpaaDoor
open Go.RowKit Go.Shelf Pl14

set_option maxRecDepth 100000 in
set_option maxHeartbeats 4000000 in
theorem nil_walk (s : ByteArray) (how : Int) (w : World) (hT : TabsAt w) : Calls Tryd.prog 7 #[.string s, .int .i64 how] w fun e w' => e = .returned (.bool true) ∧ Below w.heap.size w w' := by
  have HT := Lib.hid hT; clear hT
  by_cases hs : 100 < s.size
  · go_enter Tryd.func7, Tryd.ntmps7
    go_wp2_with (go_at_call 11; refine (awake_any _ HT.out).mono ?_; rintro e w' ⟨rfl, hb⟩; replace hb := Lib.hid hb)
    go_ret
    exact ⟨rfl, hb.out⟩
  · obtain ⟨W1, hW1⟩ : ∃ W, w.alloc (.cells #[.string s] 9) = W := ⟨_, rfl⟩
    have HB1 := Lib.hid (show Below w.heap.size w W1 by rw [← hW1]; exact (Below.refl _ _).alloc (Nat.le_refl _) _)
    go_enter Tryd.func7, Tryd.ntmps7
    go_wp2_with (first
      | (go_at_call 19; refine (newNil_any _ _).mono ?_; rintro e w' ⟨rfl, rfl⟩)
      | (go_at_call 14; refine (decodeNil_any _ _ _).mono ?_; rintro e w' ⟨rfl, rfl⟩)
      | (go_at_call 24; refine (resetNil_any _).mono ?_; rintro e w' ⟨rfl, rfl⟩)
      | (go_at_call 20; refine (stepNil_any _ _).mono ?_; rintro e w' ⟨rfl, rfl⟩)
      | (go_at_call 23; refine (flushNil_any _).mono ?_; rintro e w' ⟨rfl, rfl⟩)
      | (go_at_call 22; refine (heldNil_any _).mono ?_; rintro e w' ⟨rfl, rfl⟩)
      | (go_at_call 21; refine (atNil_any _).mono ?_; rintro e w' ⟨rfl, rfl⟩)
      | (go_at_call 11; refine (awake_any _ (HT.out.below HB1.out rfl)).mono ?_; rintro e w' ⟨rfl, hb⟩; replace hb := Lib.hid hb))
    go_ret
    exact ⟨rfl, HB1.out.trans (hb.out.mono HB1.out.size)⟩

end Go.Proofs.YtplobpelhcagpaaDoor
