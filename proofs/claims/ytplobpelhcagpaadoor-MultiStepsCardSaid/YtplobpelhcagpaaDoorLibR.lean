/-
  A row of numbers in a block that is written in place: what it holds, as a function of the place.
-/
import Derived.Test.YtplobpelhcagpaaDoorLibB
namespace Go.Proofs.YtplobpelhcagpaaDoor
open Go.RowKit

/-- from place off on the block blk holds, in n cells, the numbers d 0, d 1, .. -/
def RowF (k : IntKind) (w : World) (blk off n : Nat) (d : Nat → Int) : Prop :=
  ∀ j, j < n → w.cell? ⟨blk, off + j, none⟩ = some (.int k (d j)) ∧ w.frozen? ⟨blk, off + j, none⟩ = false

def setF (d : Nat → Int) (i : Nat) (x : Int) : Nat → Int := fun p => if p = i then x else d p
def swapF (d : Nat → Int) (i j : Nat) : Nat → Int := fun p => if p = i then d j else if p = j then d i else d p

theorem RowF.congr {k : IntKind} {w : World} {blk off n : Nat} {d d' : Nat → Int} (h : RowF k w blk off n d) (e : ∀ j, j < n → d j = d' j) : RowF k w blk off n d' :=
  fun j hj => by rw [← e j hj]; exact h j hj

theorem RowF.below {k : IntKind} {w w' : World} {blk off n m : Nat} {d : Nat → Int} (h : RowF k w blk off n d) (hb : Below m w w') (hm : blk < m) : RowF k w' blk off n d :=
  fun j hj => ⟨(hb.cell (p := ⟨blk, off + j, none⟩) hm).trans (h j hj).1, (hb.frozen (p := ⟨blk, off + j, none⟩) hm).trans (h j hj).2⟩

theorem RowF.keep {k : IntKind} {S : Nat → Prop} {w w' : World} {blk off n : Nat} {d : Nat → Int} (h : RowF k w blk off n d) (hk : Keep S w w') (hb : blk < w.heap.size) (hs : ¬ S blk) : RowF k w' blk off n d :=
  fun j hj => ⟨(World.cell?_of_block (w := w) (a := ⟨blk, off + j, none⟩) (hk.block blk hb hs)).trans (h j hj).1, (World.frozen?_of_block (w := w) (a := ⟨blk, off + j, none⟩) (hk.block blk hb hs)).trans (h j hj).2⟩

theorem RowF.drew {k : IntKind} {w : World} {blk off n : Nat} {d : Nat → Int} (h : RowF k w blk off n d) : RowF k w.drew blk off n d := h

theorem RowF.drewN {k : IntKind} {w : World} {blk off n : Nat} {d : Nat → Int} (h : RowF k w blk off n d) (m : Nat) : RowF k (w.drewN m) blk off n d := h

theorem RowF.set {k : IntKind} {w : World} {blk off n : Nat} {d : Nat → Int} (h : RowF k w blk off n d) (i : Nat) (x : Int) (hi : i < n) :
    RowF k (w.setCell ⟨blk, off + i, none⟩ (.int k x)) blk off n (setF d i x) := by
  intro j hj
  unfold setF
  refine ⟨?_, (World.frozen?_setCell _ _ _ _).trans (h j hj).2⟩
  by_cases e : j = i
  · subst e
    rw [if_pos rfl, World.cell?_setCell_same _ _ _ (h j hj).1]
  · rw [if_neg e, World.cell?_setCell_other _ _ _ _ (by simp)]
    exact (h j hj).1

theorem RowF.swap {k : IntKind} {w : World} {blk off n : Nat} {d : Nat → Int} (h : RowF k w blk off n d) (i j : Nat) (hi : i < n) (hj : j < n) :
    RowF k ((w.setCell ⟨blk, off + i, none⟩ (.int k (d j))).setCell ⟨blk, off + j, none⟩ (.int k (d i))) blk off n (swapF d i j) := by
  refine ((h.set i (d j) hi).set j (d i) hj).congr ?_
  intro p _
  unfold setF swapF
  by_cases e1 : p = j
  · by_cases e2 : p = i
    · subst e1; subst e2; simp
    · simp [e1]; intro e; exact absurd (e1.trans e) e2
  · simp [e1]

theorem Keep.swap (w : World) (blk i j : Nat) (x y : Value) : Keep (fun b => b = blk) w ((w.setCell ⟨blk, i, none⟩ x).setCell ⟨blk, j, none⟩ y) :=
  (Keep.of_setCell w blk i x).trans (Keep.of_setCell _ blk j y) (fun _ _ h => h)

theorem swapF_comm (d : Nat → Int) (i j : Nat) : swapF d i j = swapF d j i := by
  funext p; unfold swapF
  by_cases h1 : p = i
  · by_cases h2 : p = j
    · rw [if_pos h1, if_pos h2, ← h1, ← h2]
    · rw [if_pos h1, if_neg h2, if_pos h1]
  · by_cases h2 : p = j
    · rw [if_neg h1, if_pos h2, if_pos h2]
    · rw [if_neg h1, if_neg h2, if_neg h2, if_neg h1]

/-- a slice of the call's own, as a row -/
theorem Own.row {e : TypeId} {k : IntKind} {B : Nat} {w : World} {g cap : Nat} {xs : List Int} (h : Own e k B w (.slice (some ⟨g, 0, none⟩) xs.length cap) xs) :
    RowF k w g 0 xs.length (fun j => xs.getD j 0) := by
  intro j hj
  refine ⟨?_, World.ownsRow.frozenAt h _⟩
  have := World.ownsRow.cellAt (w := w) (g := g) (n := xs.length) (cap := cap) h j (by omega)
  rw [Nat.zero_add, this]
  simp [hj]

/-- of all that was there, only the n cells from off on, in the block blk, may have turned -/
structure KeepR (blk off n : Nat) (w w' : World) : Prop where
  keep : Keep (fun j => j = blk) w w'
  cells : ∀ o, (o < off ∨ off + n ≤ o) → w'.cell? ⟨blk, o, none⟩ = w.cell? ⟨blk, o, none⟩ ∧ w'.frozen? ⟨blk, o, none⟩ = w.frozen? ⟨blk, o, none⟩
  shape : ∀ cs e fr, w.heap[blk]? = some (.cells cs e fr) → ∃ cs', w'.heap[blk]? = some (.cells cs' e fr) ∧ cs'.size = cs.size

theorem KeepR.refl (blk off n : Nat) (w : World) : KeepR blk off n w w := ⟨Keep.refl _ _, fun _ _ => ⟨rfl, rfl⟩, fun cs _ _ h => ⟨cs, h, rfl⟩⟩
theorem KeepR.size {blk off n : Nat} {w w' : World} (h : KeepR blk off n w w') : w.heap.size ≤ w'.heap.size := h.keep.size
theorem KeepR.trans {blk off n : Nat} {a b c : World} (h : KeepR blk off n a b) (k : KeepR blk off n b c) : KeepR blk off n a c :=
  ⟨h.keep.trans k.keep (fun _ _ h => h), fun o ho => ⟨(k.cells o ho).1.trans (h.cells o ho).1, (k.cells o ho).2.trans (h.cells o ho).2⟩, fun cs e fr hc => by
    obtain ⟨cs1, h1, h2⟩ := h.shape cs e fr hc
    obtain ⟨cs2, h3, h4⟩ := k.shape cs1 e fr h1
    exact ⟨cs2, h3, h4.trans h2⟩⟩
theorem KeepR.of_drew (blk off n : Nat) (w : World) : KeepR blk off n w w.drew := ⟨Keep.of_drew _ _, fun _ _ => ⟨rfl, rfl⟩, fun cs _ _ h => ⟨cs, h, rfl⟩⟩
theorem KeepR.of_drewN (blk off n : Nat) (w : World) (m : Nat) : KeepR blk off n w (w.drewN m) := ⟨Keep.of_drewN _ _ _, fun _ _ => ⟨rfl, rfl⟩, fun cs _ _ h => ⟨cs, h, rfl⟩⟩
theorem KeepR.of_below {blk off n m : Nat} {w w' : World} (h : Below m w w') (hm : m = w.heap.size) (hb : blk < w.heap.size) : KeepR blk off n w w' :=
  ⟨Keep.of_below h hm, fun o _ => ⟨h.cell (p := ⟨blk, o, none⟩) (by show blk < m; omega), h.frozen (p := ⟨blk, o, none⟩) (by show blk < m; omega)⟩, fun cs e fr hc => ⟨cs, (h.block blk (by omega)).trans hc, rfl⟩⟩
theorem KeepR.of_set (w : World) (blk off n i : Nat) (x : Value) (hi : i < n) : KeepR blk off n w (w.setCell ⟨blk, off + i, none⟩ x) :=
  ⟨Keep.of_setCell _ _ _ _, fun o ho => ⟨World.cell?_setCell_other _ _ _ _ (by simp), World.frozen?_setCell _ _ _ _⟩, fun cs e fr hc => by
    refine ⟨cs.setIfInBounds (off + i) x, ?_, by simp⟩
    simp only [World.setCell, Array.getElem?_modify, if_pos, hc, Option.map_some]
    rfl⟩
theorem KeepR.swap (w : World) (blk off n i j : Nat) (x y : Value) (hi : i < n) (hj : j < n) : KeepR blk off n w ((w.setCell ⟨blk, off + i, none⟩ x).setCell ⟨blk, off + j, none⟩ y) :=
  (KeepR.of_set w blk off n i x hi).trans (KeepR.of_set _ blk off n j y hj)

theorem RowF.sub {k : IntKind} {w : World} {g N f n : Nat} {D : Nat → Int} (h : RowF k w g 0 N D) (hf : f + n ≤ N) : RowF k w g f n (fun j => D (f + j)) := by
  intro j hj
  have := h (f + j) (by omega)
  rw [Nat.zero_add] at this
  exact this

theorem RowF.patch {k : IntKind} {w w' : World} {g N f n : Nat} {D E : Nat → Int} (h : RowF k w g 0 N D) (hk : KeepR g f n w w') (hr : RowF k w' g f n E) :
    RowF k w' g 0 N (fun p => if f ≤ p ∧ p < f + n then E (p - f) else D p) := by
  intro j hj
  rw [Nat.zero_add]
  dsimp only
  by_cases hc : f ≤ j ∧ j < f + n
  · rw [if_pos hc]
    have := hr (j - f) (by omega)
    rw [show f + (j - f) = j from by omega] at this
    exact this
  · rw [if_neg hc]
    have h1 := hk.cells j (by omega)
    have h2 := h j hj
    rw [Nat.zero_add] at h2
    exact ⟨h1.1.trans h2.1, h1.2.trans h2.2⟩

theorem KeepR.widen {g f n N : Nat} {w w' : World} (h : KeepR g f n w w') (hf : f + n ≤ N) : KeepR g 0 N w w' :=
  ⟨h.keep, fun o ho => h.cells o (by omega), h.shape⟩

end Go.Proofs.YtplobpelhcagpaaDoor
