/-
  Plain law of layer 6: ranges of one value; their joining; that there is one way to tell a function by longest ranges.
-/
import Derived.Test.YtkpkcimghkmkfaaLibA
namespace Go.Proofs.Ytkpkcimghkmkfaa

theorem snoc_ind {α : Type} {p : List α → Prop} (h0 : p []) (hs : ∀ xs x, p xs → p (xs ++ [x])) (l : List α) : p l := by
  have : ∀ m : List α, p m.reverse := by
    intro m
    induction m with
    | nil => exact h0
    | cons a m ih => rw [List.reverse_cons]; exact hs _ _ ih
  have h := this l.reverse
  rwa [List.reverse_reverse] at h

abbrev Pc := Fin 1114112 × Fin 1114112 × Int

/-- the ranges xs, rising, tell f on [0, n), as far as it is not z -/
structure Pieces (z : Int) (f : Nat → Int) (n : Nat) (xs : List Pc) : Prop where
  each : ∀ s ∈ xs, s.1.val ≤ s.2.1.val ∧ s.2.1.val < n ∧ s.2.2 ≠ z ∧ ∀ r, s.1.val ≤ r → r ≤ s.2.1.val → f r = s.2.2
  all : ∀ r, r < n → f r ≠ z → ∃ s ∈ xs, s.1.val ≤ r ∧ r ≤ s.2.1.val
  rise : xs.Pairwise fun s t => s.2.1.val < t.1.val

theorem Pieces.nil (z : Int) (f : Nat → Int) : Pieces z f 0 [] := ⟨by simp, by omega, List.Pairwise.nil⟩

theorem Pieces.skip {z : Int} {f : Nat → Int} {n n' : Nat} {xs : List Pc} (h : Pieces z f n xs) (hn : n ≤ n') (hz : ∀ r, n ≤ r → r < n' → f r = z) : Pieces z f n' xs := by
  refine ⟨fun s hs => ?_, fun r hr hf => ?_, h.rise⟩
  · obtain ⟨h1, h2, h3⟩ := h.each s hs
    exact ⟨h1, by omega, h3⟩
  · by_cases e : r < n
    · exact h.all r e hf
    · exact absurd (hz r (by omega) hr) hf

theorem Pieces.add {z : Int} {f : Nat → Int} {n n' : Nat} {xs : List Pc} (h : Pieces z f n xs) (x : Pc) (h1 : x.1.val = n) (h2 : x.2.1.val + 1 = n') (hn : n < n') (hz : x.2.2 ≠ z) (hc : ∀ r, n ≤ r → r < n' → f r = x.2.2) : Pieces z f n' (xs ++ [x]) := by
  refine ⟨fun s hs => ?_, fun r hr hf => ?_, ?_⟩
  · rcases List.mem_append.1 hs with hs | hs
    · obtain ⟨h1, h2, h3⟩ := h.each s hs
      exact ⟨h1, by omega, h3⟩
    · obtain rfl := List.mem_singleton.1 hs
      exact ⟨by omega, by omega, hz, fun r h3 h4 => hc r (by omega) (by omega)⟩
  · by_cases e : r < n
    · obtain ⟨s, hs, h3⟩ := h.all r e hf
      exact ⟨s, List.mem_append_left _ hs, h3⟩
    · exact ⟨x, by simp, by omega, by omega⟩
  · refine List.pairwise_append.2 ⟨h.rise, List.pairwise_singleton _ _, fun s hs t ht => ?_⟩
    obtain rfl := List.mem_singleton.1 ht
    have := (h.each s hs).2.1
    omega

theorem Pieces.len {z : Int} {f : Nat → Int} : ∀ {xs : List Pc} {n : Nat}, Pieces z f n xs → xs.length ≤ n := by
  intro xs
  refine snoc_ind (p := fun xs => ∀ {n : Nat}, Pieces z f n xs → xs.length ≤ n) ?_ ?_ xs
  · intro n _; simp
  · intro xs x ih
    intro n h
    have hx := h.each x (by simp)
    have hr := List.pairwise_append.1 h.rise
    have : Pieces z f x.1.val xs := by
      refine ⟨fun s hs => ?_, fun r hr' hf => ?_, hr.1⟩
      · obtain ⟨h1, h2, h3⟩ := h.each s (List.mem_append_left _ hs)
        exact ⟨h1, hr.2.2 s hs x (by simp), h3⟩
      · obtain ⟨s, hs, h3, h4⟩ := h.all r (by omega) hf
        rcases List.mem_append.1 hs with hs | hs
        · exact ⟨s, hs, h3, h4⟩
        · obtain rfl := List.mem_singleton.1 hs
          omega
    have := ih this
    simp
    omega

theorem Pieces.front {z : Int} {f : Nat → Int} {n : Nat} {xs : List Pc} {x : Pc} (h : Pieces z f n (xs ++ [x])) : Pieces z f x.1.val xs := by
  have hx := h.each x (by simp)
  have hr := List.pairwise_append.1 h.rise
  refine ⟨fun s hs => ?_, fun r hr' hf => ?_, hr.1⟩
  · obtain ⟨h1, h2, h3⟩ := h.each s (List.mem_append_left _ hs)
    exact ⟨h1, hr.2.2 s hs x (by simp), h3⟩
  · obtain ⟨s, hs, h3, h4⟩ := h.all r (by omega) hf
    rcases List.mem_append.1 hs with hs | hs
    · exact ⟨s, hs, h3, h4⟩
    · obtain rfl := List.mem_singleton.1 hs
      omega

/-- .. and by the longest ranges -/
structure Runs (z : Int) (f : Nat → Int) (n : Nat) (xs : List Pc) : Prop extends Pieces z f n xs where
  far : xs.Pairwise fun s t => s.2.1.val + 1 = t.1.val → s.2.2 ≠ t.2.2

/-- one range more, joined to the last one if it may be -/
def mergeStep (l : List Pc) (x : Pc) : List Pc :=
  match l.getLast? with
  | some y => if y.2.1.val + 1 = x.1.val ∧ y.2.2 = x.2.2 then l.dropLast ++ [(y.1, x.2.1, y.2.2)] else l ++ [x]
  | none => [x]

theorem mergeStep_nil (x : Pc) : mergeStep [] x = [x] := rfl
theorem mergeStep_snoc (l : List Pc) (y x : Pc) : mergeStep (l ++ [y]) x = if y.2.1.val + 1 = x.1.val ∧ y.2.2 = x.2.2 then l ++ [(y.1, x.2.1, y.2.2)] else (l ++ [y]) ++ [x] := by
  unfold mergeStep
  rw [List.getLast?_concat, List.dropLast_concat]

theorem Runs.step {z : Int} {f : Nat → Int} {n : Nat} {xs l : List Pc} {x : Pc} (h : Pieces z f n (xs ++ [x])) (hl : Runs z f x.1.val l) : Runs z f n (mergeStep l x) := by
  obtain ⟨x1, x2, x3, x4⟩ := h.each x (by simp)
  have hafter : ∀ r, x.2.1.val < r → r < n → f r = z := by
    intro r h1 h2
    by_cases e : f r = z
    · exact e
    · obtain ⟨s, hs, h3, h4⟩ := h.all r h2 e
      rcases List.mem_append.1 hs with hs | hs
      · have := (List.pairwise_append.1 h.rise).2.2 s hs x (by simp)
        omega
      · obtain rfl := List.mem_singleton.1 hs
        omega
  have happ : (∀ s ∈ l, s.2.1.val + 1 = x.1.val → s.2.2 ≠ x.2.2) → Runs z f n (l ++ [x]) := by
    intro hfar
    refine ⟨(hl.toPieces.add x rfl rfl (by omega) x3 (fun r h1 h2 => x4 r h1 (by omega))).skip (by omega) (fun r h1 h2 => hafter r (by omega) h2), ?_⟩
    refine List.pairwise_append.2 ⟨hl.far, List.pairwise_singleton _ _, fun s hs t ht => ?_⟩
    obtain rfl := List.mem_singleton.1 ht
    exact hfar s hs
  rcases List.eq_nil_or_concat l with rfl | ⟨l0, y, rfl⟩
  · exact happ (by simp)
  · rw [List.concat_eq_append] at hl happ ⊢
    rw [mergeStep_snoc]
    have hry := List.pairwise_append.1 hl.rise
    have hfy := List.pairwise_append.1 hl.far
    obtain ⟨y1, y2, y3, y4⟩ := hl.each y (by simp)
    by_cases hc : y.2.1.val + 1 = x.1.val ∧ y.2.2 = x.2.2
    · rw [if_pos hc]
      refine ⟨⟨fun s hs => ?_, fun r hr hf => ?_, ?_⟩, ?_⟩
      · rcases List.mem_append.1 hs with hs | hs
        · obtain ⟨h1, h2, h3⟩ := hl.each s (List.mem_append_left _ hs)
          exact ⟨h1, by omega, h3⟩
        · obtain rfl := List.mem_singleton.1 hs
          refine ⟨by dsimp only; omega, x2, y3, fun r h1 h2 => ?_⟩
          dsimp only at h1 h2 ⊢
          by_cases e : r ≤ y.2.1.val
          · exact y4 r h1 e
          · rw [hc.2]; exact x4 r (by omega) h2
      · by_cases e : r < x.1.val
        · obtain ⟨s, hs, h3, h4⟩ := hl.all r e hf
          rcases List.mem_append.1 hs with hs | hs
          · exact ⟨s, List.mem_append_left _ hs, h3, h4⟩
          · obtain rfl := List.mem_singleton.1 hs
            exact ⟨_, List.mem_append_right _ (List.mem_singleton.2 rfl), h3, by dsimp only; omega⟩
        · have : r ≤ x.2.1.val := by
            by_cases e2 : r ≤ x.2.1.val
            · exact e2
            · exact absurd (hafter r (by omega) hr) hf
          exact ⟨_, List.mem_append_right _ (List.mem_singleton.2 rfl), by dsimp only; omega, this⟩
      · refine List.pairwise_append.2 ⟨hry.1, List.pairwise_singleton _ _, fun s hs t ht => ?_⟩
        obtain rfl := List.mem_singleton.1 ht
        exact hry.2.2 s hs y (by simp)
      · refine List.pairwise_append.2 ⟨hfy.1, List.pairwise_singleton _ _, fun s hs t ht => ?_⟩
        obtain rfl := List.mem_singleton.1 ht
        exact hfy.2.2 s hs y (by simp)
    · rw [if_neg hc]
      refine happ fun s hs => ?_
      rcases List.mem_append.1 hs with hs | hs
      · intro e
        have := hry.2.2 s hs y (by simp)
        omega
      · obtain rfl := List.mem_singleton.1 hs
        intro e e2
        exact hc ⟨e, e2⟩

theorem runs_fold {z : Int} {f : Nat → Int} : ∀ {xs : List Pc} {n : Nat}, Pieces z f n xs → Runs z f n (xs.foldl mergeStep []) := by
  intro xs
  refine snoc_ind (p := fun xs => ∀ {n : Nat}, Pieces z f n xs → Runs z f n (xs.foldl mergeStep [])) ?_ ?_ xs
  · intro n h; exact ⟨h, List.Pairwise.nil⟩
  · intro xs x ih
    intro n h
    rw [List.foldl_append]
    exact Runs.step h (ih h.front)

/-- a longest range -/
def MaxRun (z : Int) (f : Nat → Int) (n : Nat) (s : Pc) : Prop :=
  s.1.val ≤ s.2.1.val ∧ s.2.1.val < n ∧ s.2.2 ≠ z ∧ (∀ r, s.1.val ≤ r → r ≤ s.2.1.val → f r = s.2.2) ∧ (∀ r, r + 1 = s.1.val → f r ≠ s.2.2) ∧ (∀ r, r = s.2.1.val + 1 → r < n → f r ≠ s.2.2)

theorem pair_of {α : Type} {R : α → α → Prop} {l : List α} (h : l.Pairwise R) {a b : α} (ha : a ∈ l) (hb : b ∈ l) : a = b ∨ R a b ∨ R b a := by
  induction h with
  | nil => simp at ha
  | cons h1 h2 ih =>
    rcases List.mem_cons.1 ha with rfl | ha'
    · rcases List.mem_cons.1 hb with rfl | hb'
      · exact .inl rfl
      · exact .inr (.inl (h1 b hb'))
    · rcases List.mem_cons.1 hb with rfl | hb'
      · exact .inr (.inr (h1 a ha'))
      · exact ih ha' hb'

theorem Runs.max {z : Int} {f : Nat → Int} {n : Nat} {xs : List Pc} (h : Runs z f n xs) (s : Pc) : s ∈ xs ↔ MaxRun z f n s := by
  have hboth : xs.Pairwise fun s t => s.2.1.val < t.1.val ∧ (s.2.1.val + 1 = t.1.val → s.2.2 ≠ t.2.2) := h.rise.and h.far
  have key : ∀ s ∈ xs, MaxRun z f n s := by
    intro s hs
    obtain ⟨h1, h2, h3, h4⟩ := h.each s hs
    refine ⟨h1, h2, h3, h4, fun r hr e => ?_, fun r hr hn e => ?_⟩
    · obtain ⟨t, ht, t1, t2⟩ := h.all r (by omega) (by rw [e]; exact h3)
      have tv := (h.each t ht).2.2.2 r t1 t2
      rcases pair_of hboth hs ht with rfl | hp | hp
      · omega
      · have := (h.each t ht).1; omega
      · exact hp.2 (by omega) (by rw [← tv, e])
    · obtain ⟨t, ht, t1, t2⟩ := h.all r hn (by rw [e]; exact h3)
      have tv := (h.each t ht).2.2.2 r t1 t2
      rcases pair_of hboth hs ht with rfl | hp | hp
      · omega
      · exact hp.2 (by omega) (by rw [← tv, e])
      · have := (h.each t ht).1; omega
  refine ⟨key s, fun hm => ?_⟩
  obtain ⟨h1, h2, h3, h4, h5, h6⟩ := hm
  have hv := h4 s.1.val (Nat.le_refl _) h1
  obtain ⟨t, ht, t1, t2⟩ := h.all s.1.val (by omega) (by rw [hv]; exact h3)
  obtain ⟨k1, k2, k3, k4, k5, k6⟩ := key t ht
  have tv : s.2.2 = t.2.2 := by rw [← hv]; exact k4 _ t1 t2
  have e1 : t.1.val = s.1.val := by
    by_cases e : t.1.val = s.1.val
    · exact e
    · exact absurd ((k4 (s.1.val - 1) (by omega) (by omega)).trans tv.symm) (h5 _ (by omega))
  have e2 : t.2.1.val = s.2.1.val := by
    rcases Nat.lt_trichotomy t.2.1.val s.2.1.val with e | e | e
    · exact absurd ((h4 (t.2.1.val + 1) (by omega) (by omega)).trans tv) (k6 _ rfl (by omega))
    · exact e
    · exact absurd ((k4 (s.2.1.val + 1) (by omega) (by omega)).trans tv.symm) (h6 _ rfl (by omega))
  have : t = s := by
    obtain ⟨a, b, c⟩ := t
    obtain ⟨a', b', c'⟩ := s
    simp only at e1 e2 tv
    rw [Fin.ext e1, Fin.ext e2, tv]
  rw [← this]; exact ht

theorem Runs.unique {z : Int} {f : Nat → Int} {n : Nat} {xs ys : List Pc} (h : Runs z f n xs) (k : Runs z f n ys) : xs = ys := by
  have nd : ∀ {l : List Pc}, Runs z f n l → l.Nodup := fun {l} hl => by
    refine List.Pairwise.imp_of_mem (fun {a b} ha hb hab e => ?_) hl.rise
    subst e
    have := (hl.each a ha).1
    omega
  have hp : xs.Perm ys := (List.perm_ext_iff_of_nodup (nd h) (nd k)).2 fun s => by rw [h.max, k.max]
  refine List.Perm.eq_of_pairwise (le := fun s t => s.2.1.val < t.1.val) (fun a b ha hb h1 h2 => ?_) h.rise k.rise hp
  have := (h.each a ha).1
  have := (k.each b hb).1
  omega

theorem Runs.congr {z : Int} {f g : Nat → Int} {n : Nat} {xs : List Pc} (h : Runs z f n xs) (he : ∀ r, r < n → g r = f r) : Runs z g n xs := by
  refine ⟨⟨fun s hs => ?_, fun r hr hf => h.all r hr (by rw [← he r hr]; exact hf), h.rise⟩, h.far⟩
  obtain ⟨h1, h2, h3, h4⟩ := h.each s hs
  exact ⟨h1, h2, h3, fun r r1 r2 => (he r (by omega)).trans (h4 r r1 r2)⟩

end Go.Proofs.Ytkpkcimghkmkfaa
