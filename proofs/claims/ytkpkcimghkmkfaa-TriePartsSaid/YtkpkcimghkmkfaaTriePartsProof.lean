/-
  The statement of this claim, proved: for every input the law returns true and leaves its arguments as they were.
-/
import Derived.Test.YtkpkcimghkmkfaaTrZ
import Derived.Test.YtkpkcimghkmkfaaLibN
import Derived.Test.YtkpkcimghkmkfaaRows
import Derived.WalkKit
import Derived.ProofKit
import Derived.OpenShut
import Derived.ShutString
import Derived.ChangeOld
import Derived.Below
import Derived.Deep.Strs
namespace Go.Proofs.Ytkpkcimghkmkfaa.trieParts
open Go.ChangeShapes Go.WideShapes Go.ChangeAt Go.RowKit
open Go.ChangeMaps (open_string shut_string)
set_option linter.unusedVariables false

theorem own : ownKnob Try.prog.godebug = none := by kernel_rfl
theorem laidOut : laidOutB Try.prog = true := by kernel_rfl

theorem three {cs : Array Value} (h : cs.size = 3) : ∃ a b c, cs = #[a, b, c] := by
  obtain ⟨l⟩ := cs
  match l, h with
  | [a, b, c], _ => exact ⟨a, b, c, rfl⟩

set_option maxRecDepth 100000 in
theorem lifted (os : Os) (started : os.Started) (H : Type) (enc : TypeId × Value → H) :
    ReturnsInHanded {} Try.checked os 8 .any (Rows.triePartsSpec.pre6 enc Try.prog Try.f8 Rows.triePartsRow.domain false) (Rows.triePartsSpec.post enc Try.prog Try.f8 false true false false) := by
  refine returnsInHanded_of_change (C := Try.checked) own started (by kernel_rfl) Try.func8
    (ChangeSpec.witness6 (enc := enc) (C := Try.checked) false ⟨#[], #[.slice none 0 0, .agg #[.int .i32 0, .int .i32 0, .int .i64 0], .int .i32 0], []⟩ 8 (by kernel_rfl) (by kernel_rfl) (by kernel_rfl) (by kernel_rfl)) ?_
  intro W base args ds gs before hval0 hW hcnd _
  have hval : ∀ (j : Nat) t v, Try.f8.params[j]? = some t → args[j]? = some v → Value.okWide Try.prog W .any base t v := hval0
  have hW' := hW
  obtain ⟨p, q, hA0, hV, rfl, hfz, hnd⟩ := hW
  have hA : DataW.TrodAll enc Try.prog W 0 (fun _ => true) true Try.f8.params.toList args.toList ds p := hA0
  rw [Try.params8] at hA hval
  obtain ⟨v0, vs0, d0, ds0, p0, q0, hargs0, rfl, rfl, h0, r0⟩ := trodAll_cons hA
  obtain ⟨v1, vs1, d1, ds1, p1, q1, hargs1, rfl, rfl, h1, r1⟩ := trodAll_cons r0
  obtain ⟨v2, vs2, d2, ds2, p2, q2, hargs2, rfl, rfl, h2, r2⟩ := trodAll_cons r1
  obtain ⟨rfl, rfl, rfl⟩ := trodAll_nil r2
  obtain rfl : args = #[v0, v1, v2] := by cases args; simp_all
  obtain ⟨rfl, rfl⟩ := trodVars_none hV
  have k0 := h0
  have k1 := h1
  have k2 := h2
  have lt0 : ∀ x ∈ p0, x.block < W.heap.size := by obtain ⟨m, hm⟩ := k0; exact DataW.trod_lt m _ _ _ hm
  have lt1 : ∀ x ∈ p1, x.block < W.heap.size := by obtain ⟨m, hm⟩ := k1; exact DataW.trod_lt m _ _ _ hm
  have lt2 : ∀ x ∈ p2, x.block < W.heap.size := by obtain ⟨m, hm⟩ := k2; exact DataW.trod_lt m _ _ _ hm
  obtain ⟨a0, len0, cap0, rfl⟩ := okWide_slice Try.underlying22 (hval 0 22 v0 rfl rfl)
  obtain ⟨ss0, hss0⟩ : ∃ ss, RdSp W (.slice a0 len0 cap0) ss := by
    obtain ⟨fuel, hf⟩ := h0
    exact sp_opened hf
  obtain ⟨fr, up, v, rfl, hb1, hb2, hb3, hb4⟩ : ∃ fr up v : Int, v1 = .agg #[.int .i32 fr, .int .i32 up, .int .i64 v] ∧ -2147483648 ≤ fr ∧ fr ≤ 2147483647 ∧ -2147483648 ≤ up ∧ up ≤ 2147483647 := by
    obtain ⟨cs, rfl, hsz⟩ := okWide_struct Try.underlying33 (hval 1 33 v1 rfl rfl)
    obtain ⟨a, b, c, rfl⟩ := three (hsz.trans (by kernel_rfl))
    obtain ⟨fuel, hf⟩ := h1
    obtain ⟨y0, y1, y2, m, hx, _, hy0, hy1, hy2⟩ := Go.Deep.trod_struct3 Try.underlying33 hf
    obtain ⟨fr, e0, _, w0⟩ := DataW.trod_int Try.underlying21 hy0
    obtain ⟨up, e1, _, w1⟩ := DataW.trod_int Try.underlying21 hy1
    obtain ⟨v, e2, _, _⟩ := DataW.trod_int Try.underlying3 hy2
    have c1 : Try.prog.cellsOf 21 = 1 := by kernel_rfl
    have c2 : Try.prog.cellsOf 3 = 1 := by kernel_rfl
    simp [Value.cells, c1, c2] at e0 e1 e2
    subst e0 e1 e2
    exact ⟨_, _, _, rfl, (wf_bounds w0).1, (wf_bounds w0).2, (wf_bounds w1).1, (wf_bounds w1).2⟩
  obtain ⟨r2, rfl, hr2a, hr2b⟩ : ∃ r : Int, v2 = .int .i32 r ∧ -2147483648 ≤ r ∧ r ≤ 2147483647 := by
    obtain ⟨r, rfl⟩ := okWide_int Try.underlying21 (hval 2 21 v2 rfl rfl)
    obtain ⟨fuel, hf⟩ := h2
    obtain ⟨r', e, _, hw⟩ := DataW.trod_int Try.underlying21 hf
    simp [Value.cells] at e
    subst e
    exact ⟨_, rfl, wf_bounds hw⟩
  clear hA0 hval0
  refine (parts_walk _ ss0 fr up v r2 W hss0 hr2a hr2b hb1 hb2 hb3 hb4).mono fun e W' ⟨he, bel⟩ => ?_
  subst he
  exact ⟨_, rfl, _, _, _, [], _, [], hW', trodAll_mk1 (shut_bool Try.underlying4 _), (trodAll_cons_mk (Below.trod laidOut (by kernel_rfl) (of_decide_eq_true (by kernel_rfl)) k0 bel lt0) (trodAll_cons_mk (Below.trod laidOut (by kernel_rfl) (of_decide_eq_true (by kernel_rfl)) k1 bel lt1) (trodAll_cons_mk (Below.trod laidOut (by kernel_rfl) (of_decide_eq_true (by kernel_rfl)) k2 bel lt2) trodAll_mk0))), rfl, bel.frame _, fun h => by cases h⟩

theorem over : Rows.triePartsRow.holds Try.pinned (OpenSpec.ofChange Rows.triePartsSpec) :=
  OpenClaim.holds_of_wide 8 Try.f8 rfl rfl rfl rfl rfl rfl rfl ⟨rfl, rfl, rfl, rfl, rfl⟩ rfl rfl rfl rfl rfl (by kernel_rfl) Try.func8 (by kernel_rfl)
    (of_decide_eq_true (by kernel_rfl)) (by unfold Func.isWrapper; first | (rw [if_pos (by decide +kernel)]; kernel_rfl) | (rw [if_neg (by decide +kernel)]; exact ⟨rfl, rfl⟩))
    (fun os started H enc _ => lifted os started H enc)

theorem proved : Rows.TriePartsSaid := over
#print axioms proved
end Go.Proofs.Ytkpkcimghkmkfaa.trieParts
