/-
  Multi: the walk of MultiAgain.
-/
import Derived.Test.YtplobpelhcagpaaDoorMtC
namespace Go.Proofs.YtplobpelhcagpaaDoor
open Go.RowKit Go.Shelf Pl14

/-- two places: those below k are done -/
def Two (k : Nat) (d c z : Value) (cs : Array Value) : Prop := cs.size = 2 ∧ (∀ j, j < k → j < 2 → cs[j]? = some d) ∧ (k < 2 → cs[k]? = some c) ∧ ∀ j, k < j → j < 2 → cs[j]? = some z
theorem Two.set {k : Nat} {d c z : Value} {cs : Array Value} (h : Two k d c z cs) (hk : k < 2) (v : Value) : Two k d v z (cs.setIfInBounds k v) := by
  obtain ⟨h0, h1, h2, h3⟩ := h
  refine ⟨by simp [h0], fun j hj h2' => ?_, fun _ => ?_, fun j hj h2' => ?_⟩
  · rw [Array.getElem?_setIfInBounds_ne (by omega)]; exact h1 j hj h2'
  · simp [h0, hk]
  · rw [Array.getElem?_setIfInBounds_ne (by omega)]; exact h3 j hj h2'
theorem Two.next {k : Nat} {d z : Value} {cs : Array Value} (h : Two k d d z cs) : Two (k + 1) d z z cs := by
  obtain ⟨h0, h1, h2, h3⟩ := h
  refine ⟨h0, fun j hj h2' => ?_, fun hk => h3 _ (by omega) hk, fun j hj h2' => h3 j (by omega) h2'⟩
  rcases Nat.lt_or_ge j k with h | h
  · exact h1 j h h2'
  · obtain rfl : j = k := by omega
    exact h2 h2'
theorem Two.end {d c z : Value} {cs : Array Value} (h : Two 2 d c z cs) : cs = #[d, d] := by
  obtain ⟨h0, h1, -, -⟩ := h
  have a := h1 0 (by decide) (by decide)
  have b := h1 1 (by decide) (by decide)
  obtain ⟨l⟩ := cs
  match l, h0 with
  | [x, y], _ =>
    simp at a b
    subst a b
    rfl
theorem totB_le {parts : List ByteArray} (h : PartsOk parts) : totB parts ≤ 2000 := by
  have : ∀ l : List ByteArray, (∀ p ∈ l, p.size ≤ 100) → totB l ≤ 100 * l.length := by
    intro l
    induction l with
    | nil => intro _; exact Nat.le_refl _
    | cons p l ih =>
      intro h
      have e : totB (p :: l) = p.size + totB l := by simp [totB]
      have := h p (by simp)
      have := ih (fun x hx => h x (by simp [hx]))
      rw [e, List.length_cons]; omega
  have := this parts h.2
  have := h.1
  omega
theorem catB_len (parts : List ByteArray) : (catB parts).length = totB parts := by
  induction parts with
  | nil => rfl
  | cons p l ih =>
    have e : totB (p :: l) = p.size + totB l := by simp [totB]
    have e2 : catB (p :: l) = p.data.toList ++ catB l := by simp [catB]
    rw [e, e2, List.length_append, ih, size_toList]
theorem step_soft (ps : List CT) {how : Int} (hh : how = 2 ∨ how = 3) (h : Bytes) (at_ : Nat) : (stepP ps how h at_).er = 0 ∧ (stepP ps how h at_).closed = false := by
  obtain ⟨x, o2, h1, h2, h3, h4, h5⟩ := step_both ps h.length h at_ (Nat.le_refl _)
  rcases hh with rfl | rfl
  · rw [h2]; exact ⟨rfl, rfl⟩
  · rw [h1]; exact ⟨h3, h4⟩
/-- a step behind others -/
theorem step_on {ps : List CT} {how : Int} (hh : how = 2 ∨ how = 3) {a p o h : Bytes} {fs : List (Int × Int)} {at_ : Nat} (e : stepP ps how a 0 = ⟨o, fs, h, at_, false, 0⟩) :
    stepP ps how (a ++ p) 0 = ⟨o ++ (stepP ps how (h ++ p) at_).out, fs ++ (stepP ps how (h ++ p) at_).fs, (stepP ps how (h ++ p) at_).held, (stepP ps how (h ++ p) at_).at_, false, 0⟩ := by
  have h1 := stepP_app ps how p a.length a 0 (Nat.le_refl _)
  rw [e] at h1
  simp only [if_true] at h1
  rw [h1]
  have h2 := step_soft ps hh (h ++ p) at_
  generalize stepP ps how (h ++ p) at_ = x at h2 ⊢
  obtain ⟨xo, xf, xh, xa, xc, xe⟩ := x
  simp only at h2
  obtain ⟨rfl, rfl⟩ := h2
  rfl

end Go.Proofs.YtplobpelhcagpaaDoor
