/-
  A slice of the call's own behind a writing in place.
-/
import Derived.Test.YtplobpelhcagpaaDoorLibR
namespace Go.Proofs.YtplobpelhcagpaaDoor
open Go.RowKit

theorem Own.rebuild {e : TypeId} {k : IntKind} {B : Nat} {w w' : World} {g cap : Nat} {xs ys : List Int} {d : Nat → Int} (h : Own e k B w (.slice (some ⟨g, 0, none⟩) xs.length cap) xs)
    (hk : KeepR g 0 xs.length w w') (hr : RowF k w' g 0 xs.length d) (hl : ys.length = xs.length) (hd : ∀ j, j < xs.length → d j = ys.getD j 0) :
    Own e k B w' (.slice (some ⟨g, 0, none⟩) xs.length cap) ys := by
  unfold Own at h ⊢
  rw [hl]
  rcases h.2 with ⟨h', _⟩ | ⟨g', cap', cur, h', hb, hg, hnc, hcm, hcs, htake⟩
  · simp at h'
  · simp only [Value.slice.injEq, Option.some.injEq, Addr.mk.injEq, and_true, true_and] at h'
    obtain ⟨rfl, rfl⟩ := h'
    obtain ⟨cur', hg', hcs'⟩ := hk.shape cur e (0, 0) hg
    refine ⟨by simp [hl], .inr ⟨g, cap, cur', rfl, hb, hg', hnc, hcm, by omega, ?_⟩⟩
    apply List.ext_getElem?
    intro j
    by_cases hj : j < xs.length
    · have h1 := (hr j hj).1
      rw [Nat.zero_add] at h1
      have h2 : w'.cell? ⟨g, j, none⟩ = cur'[j]? := by simp [World.cell?, hg']
      rw [h2, hd j hj] at h1
      rw [List.getElem?_take, if_pos (by omega), Array.getElem?_toList, h1]
      have : j < ys.length := by omega
      simp [this]
    · rw [List.getElem?_take, if_neg (by omega)]
      symm
      simp
      omega

end Go.Proofs.YtplobpelhcagpaaDoor
