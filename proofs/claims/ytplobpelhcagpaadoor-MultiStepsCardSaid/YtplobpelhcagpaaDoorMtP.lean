/-
  Multi: what is held is shorter than the longest code.
-/
import Derived.Test.YtplobpelhcagpaaDoorMtN
import Derived.Test.YtplobpelhcagpaaDoorMtE
namespace Go.Proofs.YtplobpelhcagpaaDoor
open Go.RowKit Go.Shelf Pl14

theorem foldl_ge (xs : List (Nat × MRow)) : ∀ m : Nat, m ≤ xs.foldl (fun m x => max m x.2.1.size) m ∧ ∀ x ∈ xs, x.2.1.size ≤ xs.foldl (fun m x => max m x.2.1.size) m := by
  induction xs with
  | nil => intro m; simp
  | cons y ys ih =>
    intro m
    rw [List.foldl_cons]
    obtain ⟨h1, h2⟩ := ih (max m y.2.1.size)
    refine ⟨by omega, fun x hx => ?_⟩
    rcases List.mem_cons.1 hx with rfl | hx
    · omega
    · exact h2 x hx
theorem longOf_ge {xs : List (Nat × MRow)} {x : Nat × MRow} (h : x ∈ xs) : x.2.1.size ≤ longOf xs := (foldl_ge xs 0).2 x h
theorem pickL_mem (rs : List MRow) : ∀ (n i : Nat), i < n → ((rs.getD i mr0).2.2 = 0 ∨ (rs.getD i mr0).2.2 = 3) → (i, rs.getD i mr0) ∈ pickL rs n
  | n + 1, i, hi, h => by
    unfold pickL
    by_cases e : i = n
    · subst e
      rw [if_pos h]; simp
    · exact List.mem_append_left _ (pickL_mem rs n i (by omega) h)
theorem RowOk.flag {ps : List CT} {c t : ByteArray} {fl : Int} (h : RowOk ps c t fl) : fl = 0 ∨ fl = 1 ∨ fl = 3 := by
  have hc := h.1
  unfold checkE at hc
  by_cases hcond : c.size < 1 ∨ 4 < c.size ∨ (Lib.runeCount t : Int) < 1 ∨ 18 < (Lib.runeCount t : Int) ∨ Lib.validD t.data.toList = false
  · rw [if_pos hcond] at hc; cases hc
  · rw [if_neg hcond] at hc
    by_cases h0 : fl = 0
    · exact .inl h0
    · by_cases h1 : fl = 1
      · exact .inr (.inl h1)
      · by_cases h3 : fl = 3
        · exact .inr (.inr h3)
        · simp [h0, h1, h3] at hc
theorem RowsFrom.flags : ∀ {rs : List MRow} {ps : List CT}, RowsFrom ps rs → ∀ r ∈ rs, r.2.2 = 0 ∨ r.2.2 = 1 ∨ r.2.2 = 3
  | [], _, _, r, h => by simp at h
  | x :: rs, _, hr, r, h => by
    rcases List.mem_cons.1 h with rfl | h
    · exact hr.1.flag
    · exact RowsFrom.flags hr.2 r h
theorem code_le {rs : List MRow} (hok : RowsOk rs) {p : CT} (hp : p ∈ psOf rs) : p.1.size ≤ longOf (pickL rs rs.length) := by
  obtain ⟨r, hr, h1, rfl⟩ := of_mem_psOf hp
  obtain ⟨i, hi, e⟩ := List.getElem_of_mem hr
  have hg : rs.getD i mr0 = r := by rw [← e]; simp [List.getD_eq_getElem?_getD, hi]
  have hf := RowsFrom.flags hok r hr
  have := longOf_ge (pickL_mem rs rs.length i hi (by rw [hg]; omega))
  rw [hg] at this
  exact this
theorem held_lt {rs : List MRow} (hok : RowsOk rs) (how : Int) (h : Bytes) (at_ : Nat) (he : (stepP (psOf rs) how h at_).er = 0) : (stepP (psOf rs) how h at_).held.length < max 1 (longOf (pickL rs rs.length)) := by
  rcases stepP_held (psOf rs) how h.length h at_ (Nat.le_refl _) he with e | ⟨n, t, e⟩
  · rw [e]; simp; omega
  · generalize (stepP (psOf rs) how h at_).held = x at e ⊢
    unfold nextP at e
    cases hr : nextR (psOf rs) [] x with
    | some y => rw [hr] at e; simp at e
    | none =>
      rw [hr] at e
      have hb : headB (psOf rs) x = true := by
        cases hb : headB (psOf rs) x with
        | true => rfl
        | false => rw [hb] at e; simp at e
      obtain ⟨p, hp, j, hj, rfl⟩ := headB_ex hb
      have := code_le hok hp
      rw [size_toList] at this
      rw [List.length_take]
      omega

end Go.Proofs.YtplobpelhcagpaaDoor
