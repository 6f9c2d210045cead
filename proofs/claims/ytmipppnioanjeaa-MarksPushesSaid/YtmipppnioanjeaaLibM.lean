/-
  An argument of the type [][]rune, opened: its rows, each read.
-/
import Derived.Test.YtmipppnioanjeaaMkS
import Derived.Deep.Matrix
namespace Go.Proofs.Ytmipppnioanjeaa
open Go.ChangeShapes Go.WideShapes Go.RowKit

theorem rd_opened {w : World} {A : Option Addr} {L C : Nat} {Z : List Int} (hl : L ≤ C) (hm : C ≤ maxLen) (hz : Z.length = C) (h0 : A = none → C = 0)
    (hc : ∀ a', A = some a' → ∀ c, c < C → w.cell? (a'.add c) = some (.int .i32 (Z.getD c 0))) : Rd .i32 w (.slice A L C) (Z.take L) := by
  have hlen : (Z.take L).length = L := by simp; omega
  have hmax : C ≤ 9223372036854775807 := by unfold maxLen at hm; omega
  cases A with
  | none =>
    obtain rfl := h0 rfl
    obtain rfl : L = 0 := by omega
    have : Z = [] := List.eq_nil_of_length_eq_zero hz
    subst this
    exact Rd.nil _ _
  | some x =>
    refine ⟨some x, C, by rw [hlen], by omega, hmax, (fun h => by cases h), ?_⟩
    by_cases hL : L = 0
    · left; subst hL; simp
    · right
      obtain ⟨b, o, sp⟩ := x
      have h1 := hc _ rfl 0 (by omega)
      have : sp = none := by simpa [Addr.add] using World.cell?_spot h1
      subst this
      refine ⟨b, o, rfl, fun j hj => ?_⟩
      rw [hlen] at hj
      have h2 := hc _ rfl j (by omega)
      have e : (⟨b, o, none⟩ : Addr).add j = ⟨b, o + j, none⟩ := by unfold Addr.add; split <;> simp_all
      rw [e] at h2
      have h3 : j < Z.length := by omega
      rw [h2]; simp [hj, h3]

theorem rows_opened {w : World} {a : Addr} {len cap : Nat} {A : Nat → Option Addr} {L C : Nat → Nat} {Z : Nat → List Int} (hl : len ≤ cap) (hm : cap ≤ maxLen)
    (h : ∀ r, r < cap → w.cell? (a.add r) = some (.slice (A r) (L r) (C r)) ∧ L r ≤ C r ∧ C r ≤ maxLen ∧ (Z r).length = C r ∧ (∀ n ∈ Z r, (Lit.int .i32 n).wf = true) ∧ (A r = none → C r = 0) ∧
      ∀ a', A r = some a' → 0 ≤ a'.block ∧ ∀ c, c < C r → w.cell? (a'.add c) = some (.int .i32 ((Z r).getD c 0))) :
    RdRows w (.slice (some a) len cap) ((List.range len).map fun r => (Z r).take (L r)) := by
  have hlen : ((List.range len).map fun r => (Z r).take (L r)).length = len := by simp
  refine ⟨⟨some a, cap, by rw [hlen], by rw [hlen]; exact hl, by unfold maxLen at hm; omega⟩, fun j hj => ?_⟩
  rw [hlen] at hj ⊢
  obtain ⟨h1, h2, h3, h4, _, h5, h6⟩ := h j (by omega)
  obtain ⟨b, o, sp⟩ := a
  have : sp = none := by simpa [Addr.add] using World.cell?_spot (h 0 (by omega)).1
  subst this
  have e : (⟨b, o, none⟩ : Addr).add j = ⟨b, o + j, none⟩ := by unfold Addr.add; split <;> simp_all
  rw [e] at h1
  refine ⟨b, o, cap, _, rfl, h1, ?_⟩
  have := rd_opened h2 h3 h4 h5 (fun a' ha' => (h6 a' ha').2)
  simpa [hj] using this

theorem rdRows_nil (w : World) : RdRows w (.slice none 0 0) [] := ⟨⟨none, 0, rfl, Nat.le_refl _, by omega⟩, fun j hj => by simp at hj⟩

end Go.Proofs.Ytmipppnioanjeaa
