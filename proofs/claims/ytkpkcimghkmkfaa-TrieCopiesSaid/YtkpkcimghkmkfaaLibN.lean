/-
  An argument of the type []Span, opened: its spans, each read.
-/
import Derived.Test.YtkpkcimghkmkfaaTrI
import Derived.Deep.Slices
import Derived.Deep.Strs
import Derived.OpenShut
namespace Go.Proofs.Ytkpkcimghkmkfaa
open Go.ChangeShapes Go.WideShapes Go.RowKit

theorem wf_bounds {x : Int} (h : (Lit.int .i32 x).wf = true) : -2147483648 ≤ x ∧ x ≤ 2147483647 := by
  have e1 : IntKind.i32.min = -2147483648 := rfl
  have e2 : IntKind.i32.max = 2147483647 := rfl
  simp [Lit.wf, e1, e2] at h
  exact h

set_option maxRecDepth 100000 in
theorem sp_opened {H : Type} {enc : TypeId × Value → H} {w : World} {held : Bool} {fuel : Nat} {a0 : Option Addr} {len0 cap0 : Nat} {x : DataW H × List MemPlace}
    (h : DataW.trod enc Try.prog w 0 (fun _ => true) held fuel 22 [.slice a0 len0 cap0] = some x) : ∃ ss, RdSp w (.slice a0 len0 cap0) ss := by
  have c1 : Try.prog.cellsOf 21 = 1 := by kernel_rfl
  have c2 : Try.prog.cellsOf 3 = 1 := by kernel_rfl
  have c3 : Try.prog.cellsOf 33 = 3 := by kernel_rfl
  rcases Go.Deep.open_slice Try.underlying22 h with ⟨hcs, _⟩ | ⟨a, len, cap, m, n, D, Pl, hcs, _, hl, hm, hmm, _, hx⟩
  · simp at hcs
    obtain ⟨rfl, rfl, rfl⟩ := hcs
    exact ⟨[], none, 0, rfl, Nat.le_refl _, by omega, .inl rfl⟩
  · simp at hcs
    obtain ⟨rfl, rfl, rfl⟩ := hcs
    simp only [if_true] at hmm
    subst hmm
    have each : ∀ i, i < len0 → ∃ s : Int × Int × Int, w.cell? (a.add (i * 3)) = some (.int .i32 s.1) ∧ w.cell? (a.add (i * 3 + 1)) = some (.int .i32 s.2.1) ∧ w.cell? (a.add (i * 3 + 2)) = some (.int .i64 s.2.2) ∧
        -2147483648 ≤ s.1 ∧ s.1 ≤ 2147483647 ∧ -2147483648 ≤ s.2.1 ∧ s.2.1 ≤ 2147483647 := by
      intro i hi
      obtain ⟨cs', h1, h2⟩ := hx i (by omega)
      rw [c3] at h1
      obtain ⟨_, hlen, hcell⟩ := World.cells?_some h1
      obtain ⟨y0, y1, y2, k, _, _, hy0, hy1, hy2⟩ := Go.Deep.trod_struct3 Try.underlying33 h2
      obtain ⟨fr, e0, _, w0⟩ := DataW.trod_int Try.underlying21 hy0
      obtain ⟨up, e1, _, w1⟩ := DataW.trod_int Try.underlying21 hy1
      obtain ⟨v, e2, _, _⟩ := DataW.trod_int Try.underlying3 hy2
      have g0 := hcell 0 (by omega)
      have g1 := hcell 1 (by omega)
      have g2 := hcell 2 (by omega)
      match cs', hlen with
      | [v0, v1, v2], _ =>
        simp [c1, c2] at e0 e1 e2
        subst e0 e1 e2
        rw [Go.Deep.add_add] at g0 g1 g2
        exact ⟨(fr, up, v), by simpa using g0, by simpa using g1, by simpa using g2, (wf_bounds w0).1, (wf_bounds w0).2, (wf_bounds w1).1, (wf_bounds w1).2⟩
    obtain ⟨q, hq⟩ := Go.Deep.choose_lt each
    have hlen : ((List.range len0).map q).length = len0 := by simp
    refine ⟨(List.range len0).map q, some a, _, by rw [hlen], by rw [hlen]; exact hl, by unfold maxLen at hm; omega, ?_⟩
    by_cases h0 : len0 = 0
    · left; subst h0; simp
    · right
      obtain ⟨b, o, sp⟩ := a
      have : sp = none := by simpa [Addr.add] using World.cell?_spot (hq 0 (by omega)).1
      subst this
      refine ⟨b, o, rfl, fun j hj => ?_⟩
      rw [hlen] at hj
      have e : ∀ i, (⟨b, o, none⟩ : Addr).add i = ⟨b, o + i, none⟩ := fun i => by unfold Addr.add; split <;> simp_all
      obtain ⟨g0, g1, g2, g3⟩ := hq j hj
      rw [e] at g0 g1 g2
      have hd : ((List.range len0).map q).getD j (0, 0, 0) = q j := by simp [hj]
      rw [hd]
      exact ⟨g0, by rw [Nat.add_assoc]; exact g1, by rw [Nat.add_assoc]; exact g2, g3⟩

end Go.Proofs.Ytkpkcimghkmkfaa
