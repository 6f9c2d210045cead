/-
  A value that tells classes, and the comparison of Sort.
-/
import Derived.Test.YtplobpelhcagpaaDoorMuF
import Derived.Deep.RegionHeld3
import Derived.Shelf.Abstract
namespace Go.Proofs.YtplobpelhcagpaaDoor
open Go.RowKit Go.Shelf Pl14

/-- an interface value (dynamic type T, value x) whose method Class tells the classes of the small database, in w and in all worlds in which what lay in w lies still -/
structure ClsAt (w : World) (T : TypeId) (x : Value) (f : FuncId) (x' : Value) : Prop where
  nil : ∀ w', (nilAhead 275 T x "Class").run Tryd.prog w' = .ok (some false) w'
  meth : ∀ w', (method 275 T x "Class").run Tryd.prog w' = .ok (f, x') w'
  enter : ∀ args w', (callFunc f args).run Tryd.prog w' = .ok (.enter f args) w'
  call : ∀ w', Below w.heap.size w w' → ∀ r : Int, Calls Tryd.prog f #[x', .int .i32 r] w' fun e w'' => e = .returned (.int .i64 (cls r)) ∧ Below w'.heap.size w' w''

theorem cls_small (w : World) : ClsAt w 85 (.agg #[]) 94 (.agg #[]) where
  nil := nilAhead_small
  meth := method_small
  enter := enters_of Tryd.func94 (by kernel_rfl) rfl
  call := fun w' _ r => class17_any r w'

theorem ClsAt.later {w w' : World} {T : TypeId} {x : Value} {f : FuncId} {x' : Value} (h : ClsAt w T x f x') (hb : Below w.heap.size w w') : ClsAt w' T x f x' where
  nil := h.nil
  meth := h.meth
  enter := h.enter
  call := fun w2 hb2 r => h.call w2 (hb.trans (hb2.mono hb.size)) r

set_option maxHeartbeats 1600000 in
theorem cmp_any (w0 w : World) (T : TypeId) (x : Value) (f : FuncId) (x' : Value) (hc : ClsAt w0 T x f x') (hb : Below w0.heap.size w0 w) (bx : Nat) (hbx : w.cell? ⟨bx, 0, none⟩ = some (.iface T x)) (r s : Int) :
    Calls Tryd.prog 70 #[.int .i32 r, .int .i32 s, .pointer (some ⟨bx, 0, none⟩)] w fun e w' => e = .returned (.int .i64 (cls r - cls s)) ∧ Below w.heap.size w w' := by
  have h1 := hc.nil
  have h2 := hc.meth
  have h3 := hc.enter
  have HC := Lib.hid hc; clear hc
  have hbs := hb.size
  have hlt := cell_lt hbx
  have b1 := cls_nonneg r
  have b2 := cls_nonneg s
  have b3 := cls_le r
  have b4 := cls_le s
  have HB := Lib.hid hb; clear hb
  go_enter Tryd.func70, Tryd.ntmps70
  go_wp2_with fail
  have tok : True := trivial
  go_region_held3 (fun w' => w'.cell? ⟨bx, 0, none⟩ = some (.iface T x)) (first | go_keep | (rw [hb1.cell (by simp; omega)]; assumption) | (rw [hb2.cell (by have := hb1.size; simp at this ⊢; omega)]; assumption))
    (first | (go_at_fn f; have _t := tok; refine (HC.out.call _ ?_ _).mono ?_; exact HB.out.drew; clear tok _t; rintro e w1 ⟨rfl, hb1⟩) | (go_at_fn f; refine (HC.out.call _ ?_ _).mono ?_; exact HB.out.drew.trans (hb1.mono hbs); rintro e w2 ⟨rfl, hb2⟩))
  go_wp2
  go_ret
  refine ⟨ret_int (IntWalk.i64_in _ (by omega)), (Below.refl _ _).drew.trans ?_⟩
  exact hb1.trans (hb2.mono hb1.size)

end Go.Proofs.YtplobpelhcagpaaDoor
