/-
  The plain law of layer 14 (marks), more: what sequences begin with, and how many there are.
-/
import Derived.Test.YtmipppnioanjeaaPl14b
namespace Pl14

structure SeqP (acc : List (List Int)) : Prop where
  ne : ∀ j, j < acc.length → acc.getD j [] ≠ []
  base : ∀ j, 0 < j → j < acc.length → cls ((acc.getD j []).getD 0 0) = 0
  one : ∀ j, j < acc.length → ofC 0 ((acc.getD j []).drop 1) = []

theorem ofC_mark {x : Int} (h : cls x ≠ 0) : ofC 0 [x] = [] := ofC_nil_of (by intro y hy; simp at hy; subst hy; exact h)

theorem SeqP.push {acc : List (List Int)} (h : SeqP acc) (x : Int) : SeqP (seqPush acc x) := by
  by_cases hc : acc = [] ∨ cls x = 0
  · have hp : seqPush acc x = acc ++ [[x]] := by unfold seqPush; rw [if_pos hc]
    rw [hp]
    refine ⟨fun j hj => ?_, fun j h0 hj => ?_, fun j hj => ?_⟩ <;> (simp at hj; rw [getD_append_one])
    · by_cases hl : j < acc.length
      · rw [if_pos hl]; exact h.ne j hl
      · rw [if_neg hl, if_pos (by omega)]; simp
    · by_cases hl : j < acc.length
      · rw [if_pos hl]; exact h.base j h0 hl
      · rw [if_neg hl, if_pos (by omega)]
        rcases hc with hc | hc
        · subst hc; simp at hj; omega
        · simpa using hc
    · by_cases hl : j < acc.length
      · rw [if_pos hl]; exact h.one j hl
      · rw [if_neg hl, if_pos (by omega)]; rfl
  · have hne : acc ≠ [] := fun e => hc (.inl e)
    have hx : cls x ≠ 0 := fun e => hc (.inr e)
    have hpos : 0 < acc.length := List.length_pos_iff.2 hne
    have hp : seqPush acc x = acc.set (acc.length - 1) (acc.getD (acc.length - 1) [] ++ [x]) := by unfold seqPush; rw [if_neg hc]
    obtain ⟨n, hn⟩ : ∃ n, acc.length - 1 = n := ⟨_, rfl⟩
    have hnl : n < acc.length := by omega
    have hset : ∀ v : List Int, ∀ j, (acc.set n v).getD j [] = if j = n then v else acc.getD j [] := by
      intro v j
      by_cases e : j = n
      · rw [if_pos e, e]; simp [hnl]
      · rw [if_neg e]; simp [List.getElem?_set, Ne.symm e]
    rw [hp, hn]
    obtain ⟨y, q, hq⟩ : ∃ y q, acc.getD n [] = y :: q := by
      cases hq : acc.getD n [] with
      | nil => exact absurd hq (h.ne n hnl)
      | cons y q => exact ⟨y, q, rfl⟩
    refine ⟨fun j hj => ?_, fun j h0 hj => ?_, fun j hj => ?_⟩ <;> (simp at hj; rw [hset])
    · by_cases e : j = n
      · rw [if_pos e]; simp
      · rw [if_neg e]; exact h.ne j hj
    · by_cases e : j = n
      · rw [if_pos e]
        have := h.base j h0 hj
        rw [e, hq] at this
        rw [hq]; simpa using this
      · rw [if_neg e]; exact h.base j h0 hj
    · by_cases e : j = n
      · rw [if_pos e]
        have := h.one n hnl
        rw [hq] at this ⊢
        simp only [List.cons_append, List.drop_succ_cons, List.drop_zero] at this ⊢
        rw [ofC_append, this, ofC_mark hx]; rfl
      · rw [if_neg e]; exact h.one j hj

theorem seqP_take (xs : List Int) : ∀ k, k ≤ xs.length → SeqP (seqs (xs.take k)) := by
  intro k
  induction k with
  | zero => intro _; exact ⟨fun j hj => by simp [seqs] at hj, fun j _ hj => by simp [seqs] at hj, fun j hj => by simp [seqs] at hj⟩
  | succ k ih =>
    intro hk
    rw [List.take_succ_eq_append_getElem (show k < xs.length from hk), seqs_snoc]
    exact (ih (by omega)).push _

theorem seqP (xs : List Int) : SeqP (seqs xs) := by
  have := seqP_take xs xs.length (Nat.le_refl _)
  rw [List.take_length] at this; exact this

theorem SeqP.few {acc : List (List Int)} (h : SeqP acc) (j : Nat) (hj : j < acc.length) : (ofC 0 (acc.getD j [])).length ≤ 1 := by
  have h1 := h.one j hj
  cases hq : acc.getD j [] with
  | nil => simp [ofC]
  | cons y q =>
    rw [hq] at h1
    simp only [List.drop_succ_cons, List.drop_zero] at h1
    have : ofC 0 (y :: q) = ofC 0 [y] ++ ofC 0 q := by rw [← ofC_append]; rfl
    rw [this, h1, List.append_nil]
    exact List.length_filter_le _ _

theorem seqs_count_take (xs : List Int) : ∀ k, k ≤ xs.length → (seqs (xs.take k)).length = (ofC 0 (xs.take k)).length + (if 0 < k ∧ cls (xs.getD 0 0) ≠ 0 then 1 else 0) := by
  intro k
  induction k with
  | zero => intro _; simp [seqs, ofC]
  | succ k ih =>
    intro hk
    have hlt : k < xs.length := by omega
    have ih := ih (by omega)
    rw [List.take_succ_eq_append_getElem hlt, seqs_snoc, ofC_snoc]
    by_cases h0 : k = 0
    · subst h0
      have hd : xs.getD 0 0 = xs[0] := by simp [hlt]
      have hp : seqPush (seqs (xs.take 0)) xs[0] = [[xs[0]]] := by simp [seqs, seqPush]
      rw [hp, hd]
      by_cases hx : cls xs[0] = 0 <;> simp [hx, ofC]
    · have hne : seqs (xs.take k) ≠ [] := by
        obtain ⟨k', rfl⟩ : ∃ k', k = k' + 1 := ⟨k - 1, by omega⟩
        exact seqs_take_ne xs k' (by omega)
      have hif : (if 0 < k + 1 ∧ cls (xs.getD 0 0) ≠ 0 then 1 else 0) = (if 0 < k ∧ cls (xs.getD 0 0) ≠ 0 then 1 else 0) := by
        by_cases hb : cls (xs.getD 0 0) ≠ 0
        · rw [if_pos ⟨by omega, hb⟩, if_pos ⟨by omega, hb⟩]
        · rw [if_neg (fun h => hb h.2), if_neg (fun h => hb h.2)]
      rw [hif]
      obtain ⟨z, hz⟩ : ∃ z : Nat, (if 0 < k ∧ cls (xs.getD 0 0) ≠ 0 then 1 else 0) = z := ⟨_, rfl⟩
      rw [hz] at ih ⊢
      unfold seqPush
      by_cases hx : cls xs[k] = 0
      · rw [if_pos (.inr hx), if_pos hx]; simp; omega
      · rw [if_neg (fun h => h.elim hne hx), if_neg hx]; simp; omega

theorem seqs_count (xs : List Int) : (seqs xs).length = (ofC 0 xs).length + (if 0 < xs.length ∧ cls (xs.getD 0 0) ≠ 0 then 1 else 0) := by
  have := seqs_count_take xs xs.length (Nat.le_refl _)
  rw [List.take_length] at this; exact this

end Pl14
