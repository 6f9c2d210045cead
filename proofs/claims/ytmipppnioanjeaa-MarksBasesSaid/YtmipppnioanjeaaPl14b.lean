/-
  The plain law of layer 14 (marks), more: sequences and cuts; which texts sorting leaves alone.
-/
import Derived.Test.YtmipppnioanjeaaPl14
namespace Pl14

/-! ### sequences, cut by cut -/

theorem cutsTo_succ (xs : List Int) (k : Nat) : cutsTo xs (k + 1) = if cutAt xs k = true then cutsTo xs k ++ [k] else cutsTo xs k := by
  unfold cutsTo
  rw [List.range_succ, List.filter_append]
  by_cases h : cutAt xs k = true <;> simp [h]

theorem cutsTo_lt (xs : List Int) (k c : Nat) (h : c ∈ cutsTo xs k) : c < k := by
  unfold cutsTo at h; simp at h; exact h.1

theorem getD_append_one {α : Type} (l : List α) (x d : α) (j : Nat) : (l ++ [x]).getD j d = if j < l.length then l.getD j d else if j = l.length then x else d := by
  by_cases h : j < l.length
  · rw [if_pos h]; simp [List.getElem?_append, h]
  · rw [if_neg h]
    by_cases e : j = l.length
    · rw [if_pos e]; subst e; simp
    · rw [if_neg e]
      simp [List.getElem?_append, h]
      cases hj : j - l.length with
      | zero => omega
      | succ m => simp

structure CutInv (xs : List Int) (k : Nat) : Prop where
  len : (seqs (xs.take k)).length = (cutsTo xs k).length
  row : ∀ j, j < (cutsTo xs k).length → (seqs (xs.take k)).getD j [] = (xs.take (if j + 1 < (cutsTo xs k).length then (cutsTo xs k).getD (j + 1) 0 else k)).drop ((cutsTo xs k).getD j 0)

theorem getD_lt_of {l : List Nat} {k j : Nat} (h : ∀ c ∈ l, c < k) (hj : j < l.length) : l.getD j 0 < k := by
  have : l.getD j 0 = l[j] := by simp [hj]
  rw [this]; exact h _ (List.getElem_mem hj)

theorem cutInv (xs : List Int) : ∀ k, k ≤ xs.length → CutInv xs k := by
  intro k
  induction k with
  | zero => intro _; exact ⟨by simp [seqs, cutsTo], fun j hj => by simp [cutsTo] at hj⟩
  | succ k ih =>
    intro hk
    obtain ⟨h1, h2⟩ := ih (by omega)
    have hlt : k < xs.length := by omega
    have hlast : xs.take (k + 1) = xs.take k ++ [xs[k]] := List.take_succ_eq_append_getElem hlt
    have hs : seqs (xs.take (k + 1)) = seqPush (seqs (xs.take k)) xs[k] := by rw [hlast, seqs_snoc]
    have hd : xs.getD k 0 = xs[k] := by simp [hlt]
    have hcond : cutAt xs k = true ↔ (seqs (xs.take k) = [] ∨ cls xs[k] = 0) := by
      unfold cutAt
      rw [hd]
      constructor
      · intro h
        rcases of_decide_eq_true h with h | h
        · subst h; left; simp [seqs]
        · exact .inr h
      · intro h
        apply decide_eq_true
        rcases h with h | h
        · left
          cases k with
          | zero => rfl
          | succ k => exact absurd h (seqs_take_ne xs k (by omega))
        · exact .inr h
    by_cases hc : cutAt xs k = true
    · have hp : seqPush (seqs (xs.take k)) xs[k] = seqs (xs.take k) ++ [[xs[k]]] := by unfold seqPush; rw [if_pos (hcond.1 hc)]
      have hcut : cutsTo xs (k + 1) = cutsTo xs k ++ [k] := by rw [cutsTo_succ, if_pos hc]
      refine ⟨by rw [hs, hp, hcut]; simp [h1], fun j hj => ?_⟩
      rw [hcut] at hj ⊢
      simp at hj
      rw [hs, hp, getD_append_one, getD_append_one, getD_append_one, h1]
      by_cases hj2 : j < (cutsTo xs k).length
      · rw [if_pos hj2, if_pos hj2, h2 j hj2]
        have e : (if j + 1 < (cutsTo xs k ++ [k]).length then if j + 1 < (cutsTo xs k).length then (cutsTo xs k).getD (j + 1) 0 else if j + 1 = (cutsTo xs k).length then k else 0 else k + 1) =
            if j + 1 < (cutsTo xs k).length then (cutsTo xs k).getD (j + 1) 0 else k := by
          rw [if_pos (by simp; omega)]
          by_cases hj3 : j + 1 < (cutsTo xs k).length
          · rw [if_pos hj3, if_pos hj3]
          · rw [if_neg hj3, if_neg hj3, if_pos (by omega)]
        rw [e]
      · have hj3 : j = (cutsTo xs k).length := by omega
        rw [if_neg hj2, if_neg hj2, if_pos hj3, if_pos hj3, if_neg (by simp; omega), hlast]
        rw [List.drop_append_of_le_length (by rw [List.length_take]; omega), List.drop_eq_nil_of_le (by rw [List.length_take]; omega)]
        rfl
    · have hno := fun h => hc (hcond.2 h)
      have hne : seqs (xs.take k) ≠ [] := fun h => hno (.inl h)
      have hpos : 0 < (seqs (xs.take k)).length := List.length_pos_iff.2 hne
      have hp : seqPush (seqs (xs.take k)) xs[k] = (seqs (xs.take k)).set ((seqs (xs.take k)).length - 1) ((seqs (xs.take k)).getD ((seqs (xs.take k)).length - 1) [] ++ [xs[k]]) := by
        unfold seqPush; rw [if_neg hno]
      have hcut : cutsTo xs (k + 1) = cutsTo xs k := by rw [cutsTo_succ, if_neg hc]
      refine ⟨by rw [hs, hp, hcut]; simp [h1], fun j hj => ?_⟩
      rw [hcut] at hj ⊢
      rw [hs, hp]
      have hset : ∀ v : List Int, ((seqs (xs.take k)).set ((seqs (xs.take k)).length - 1) v).getD j [] = if j = (seqs (xs.take k)).length - 1 then v else (seqs (xs.take k)).getD j [] := by
        intro v
        by_cases e : j = (seqs (xs.take k)).length - 1
        · rw [if_pos e]
          have hj4 : j < (seqs (xs.take k)).length := by omega
          rw [← e]; simp [hj4]
        · rw [if_neg e]; simp [List.getElem?_set, Ne.symm e]
      rw [hset]
      by_cases e : j = (seqs (xs.take k)).length - 1
      · have hj2 : ¬ j + 1 < (cutsTo xs k).length := by omega
        rw [if_pos e, if_neg hj2, ← e, h2 j hj, if_neg hj2, hlast]
        have hlt2 := getD_lt_of (fun c hc => cutsTo_lt xs k c hc) hj
        rw [List.drop_append_of_le_length (by rw [List.length_take]; omega)]
      · have hj2 : j + 1 < (cutsTo xs k).length := by omega
        rw [if_neg e, if_pos hj2, h2 j hj, if_pos hj2]

theorem cutsTo_incr (xs : List Int) (k j : Nat) (h : j + 1 < (cutsTo xs k).length) : (cutsTo xs k).getD j 0 < (cutsTo xs k).getD (j + 1) 0 := by
  have hp : (cutsTo xs k).Pairwise (· < ·) := List.Pairwise.filter _ List.pairwise_lt_range
  have h1 : (cutsTo xs k).getD j 0 = (cutsTo xs k)[j] := by simp [show j < (cutsTo xs k).length from by omega]
  have h2 : (cutsTo xs k).getD (j + 1) 0 = (cutsTo xs k)[j + 1] := by simp [h]
  rw [h1, h2]
  exact List.pairwise_iff_getElem.1 hp j (j + 1) (by omega) h (by omega)

theorem cutsI_getD (xs : List Int) (k j : Nat) (h : j < (cutsTo xs k).length) : (cutsI xs k).getD j 0 = (((cutsTo xs k).getD j 0 : Nat) : Int) := by
  unfold cutsI; simp [h]
theorem cutsI_len (xs : List Int) (k : Nat) : (cutsI xs k).length = (cutsTo xs k).length := by unfold cutsI; simp

/-- what is said of the j-th sequence -/
theorem seq_at (xs : List Int) (j : Nat) (hj : j < (cutsTo xs xs.length).length) :
    ∃ c t : Nat, (cutsI xs xs.length).getD j 0 = (c : Int) ∧ c < xs.length ∧ c ≤ t ∧ t ≤ xs.length ∧ (seqs xs).getD j [] = (xs.take t).drop c ∧
      ((j + 1 < (cutsTo xs xs.length).length ∧ (cutsI xs xs.length).getD (j + 1) 0 = (t : Int)) ∨ (¬ j + 1 < (cutsTo xs xs.length).length ∧ t = xs.length)) := by
  obtain ⟨h1, h2⟩ := cutInv xs xs.length (Nat.le_refl _)
  rw [List.take_length] at h1 h2
  have hlt := getD_lt_of (fun c hc => cutsTo_lt xs xs.length c hc) hj
  by_cases hj2 : j + 1 < (cutsTo xs xs.length).length
  · have hlt2 := getD_lt_of (fun c hc => cutsTo_lt xs xs.length c hc) hj2
    have hinc := cutsTo_incr xs xs.length j hj2
    refine ⟨_, _, cutsI_getD xs _ j hj, hlt, Nat.le_of_lt hinc, by omega, ?_, .inl ⟨hj2, cutsI_getD xs _ (j + 1) hj2⟩⟩
    have := h2 j hj
    rw [if_pos hj2] at this; exact this
  · refine ⟨_, _, cutsI_getD xs _ j hj, hlt, by omega, Nat.le_refl _, ?_, .inr ⟨hj2, rfl⟩⟩
    have := h2 j hj
    rw [if_neg hj2] at this; exact this

end Pl14
