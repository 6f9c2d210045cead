/-
  Contracts: marks.Sequences, the document's Cuts.
-/
import Derived.Test.YtmipppnioanjeaaMkG
import Derived.BigQuiet
namespace Go.Proofs.Ytmipppnioanjeaa
open Go.RowKit Go.Shelf Pl14

theorem runes : ElemV Try.prog 34 22 (.slice none 0 0) 24 := ElemV.mk' Try.underlying34 rfl (by kernel_rfl)

/-- rows of the call's own in a slice of the call's own, each in a block by itself -/
structure Rows2 (B : Nat) (w : World) (v : Value) (vs : List Value) (acc : List (List Int)) : Prop where
  outer : w.ownsRow B 22 1 v vs.length vs
  len : vs.length = acc.length
  own : ∀ j, j < vs.length → Own 21 .i32 B w (vs.getD j undef) (acc.getD j [])
  neO : ∀ j, j < vs.length → ∀ b, (vs.getD j undef).ownBlock = some b → v.ownBlock ≠ some b
  apart : ∀ i j, i < j → j < vs.length → ∀ b, (vs.getD i undef).ownBlock = some b → (vs.getD j undef).ownBlock ≠ some b

theorem Rows2.nil (B : Nat) (w : World) : Rows2 B w (.slice none 0 0) [] [] :=
  ⟨World.ownsRow_nil w B _ 1, rfl, fun j hj => by simp at hj, fun j hj => by simp at hj, fun i j _ hj => by simp at hj⟩

theorem Rows2.keep {B n : Nat} {w w' : World} {v : Value} {vs : List Value} {acc : List (List Int)} (h : Rows2 B w v vs acc) (hk : Below n w w') (hn : n = w.heap.size) : Rows2 B w' v vs acc :=
  ⟨ownsRow_keepV h.outer (Keep.of_below (S := fun _ => False) hk hn) (fun _ _ h => h), h.len, fun j hj => (h.own j hj).kept hn hk, h.neO, h.apart⟩

theorem getD_snoc {α : Type} (l : List α) (x d : α) (j : Nat) : (l ++ [x]).getD j d = if j < l.length then l.getD j d else if j = l.length then x else d := by
  by_cases h : j < l.length
  · rw [if_pos h]; simp [List.getElem?_append, h]
  · rw [if_neg h]
    by_cases e : j = l.length
    · rw [if_pos e]; subst e; simp
    · rw [if_neg e]
      have : ¬ j - l.length = 0 := by omega
      simp [List.getElem?_append, h]
      cases hj : j - l.length with
      | zero => omega
      | succ m => simp

/-- one row more, empty -/
theorem Rows2.push {B : Nat} {w w1 : World} {v v' : Value} {vs : List Value} {acc : List (List Int)} {o : Obj} (h : Rows2 B w v vs acc)
    (hown : w1.ownsRow B 22 1 v' (vs ++ [Value.slice none 0 0]).length (vs ++ [Value.slice none 0 0])) (hg : (w.alloc o).grownBy w1 v.ownBlock)
    (hat : v'.ownBlock = v.ownBlock ∨ v'.ownBlock = some (w.heap.size + 1)) : Rows2 B w1 v' (vs ++ [Value.slice none 0 0]) (acc ++ [[]]) := by
  have hk : Keep (fun j => v.ownBlock = some j) w w1 := (Keep.of_alloc (fun j => v.ownBlock = some j) _ o).trans (Keep.of_grown hg) (fun _ _ h => h)
  refine ⟨hown, by simp [h.len], ?_, ?_, ?_⟩
  · intro j hj
    simp at hj
    rw [getD_snoc, getD_snoc, h.len]
    by_cases hjl : j < acc.length
    · rw [if_pos hjl, if_pos hjl]
      exact (h.own j (by rw [h.len]; exact hjl)).keep hk (fun b hb hv => h.neO j (by rw [h.len]; exact hjl) b hb hv)
    · rw [if_neg hjl, if_neg hjl, if_pos (by have := h.len; omega), if_pos (by have := h.len; omega)]
      exact Own.nil _ _ _ _
  · intro j hj b hb
    simp at hj
    rw [getD_snoc] at hb
    by_cases hjl : j < vs.length
    · rw [if_pos hjl] at hb
      rcases hat with e | e
      · rw [e]; exact h.neO j hjl b hb
      · rw [e]; intro hc; simp at hc; have := ((h.own j hjl).lt b hb).2; omega
    · rw [if_neg hjl, if_pos (by omega)] at hb; simp [Value.ownBlock] at hb
  · intro i j hij hj b hb
    simp at hj
    rw [getD_snoc] at hb ⊢
    by_cases hjl : j < vs.length
    · rw [if_pos (by omega)] at hb; rw [if_pos hjl]; exact h.apart i j hij hjl b hb
    · rw [if_neg hjl, if_pos (by omega)]; simp [Value.ownBlock]

theorem getD_set {α : Type} (l : List α) (n : Nat) (x d : α) (j : Nat) (hn : n < l.length) : (l.set n x).getD j d = if j = n then x else l.getD j d := by
  by_cases e : j = n
  · subst e; simp [hn]
  · rw [if_neg e]; simp [List.getElem?_set, Ne.symm e]

/-- the last row has one number more, and is stored back -/
theorem Rows2.grow {B : Nat} {w w1 : World} {g cap n : Nat} {u u' : Value} {vs : List Value} {acc : List (List Int)} {o : Obj} {x : Int} (h : Rows2 B w (.slice (some ⟨g, 0, none⟩) vs.length cap) vs acc) (hn : n < vs.length)
    (hu : vs.getD n undef = u) (hown : Own 21 .i32 B w1 u' (acc.getD n [] ++ [x])) (hg : (w.alloc o).grownBy w1 u.ownBlock) (hat : u'.ownBlock = u.ownBlock ∨ u'.ownBlock = some (w.heap.size + 1)) :
    Rows2 B (w1.setCell ⟨g, n, none⟩ u') (.slice (some ⟨g, 0, none⟩) vs.length cap) (vs.set n u') (acc.set n (acc.getD n [] ++ [x])) := by
  have hgl : g < w.heap.size := by
    rcases h.outer.2 with ⟨h', _⟩ | ⟨g', _, _, h', _, hgg, _⟩
    · simp at h'
    · simp only [Value.slice.injEq, Option.some.injEq, Addr.mk.injEq, and_true, true_and] at h'
      obtain ⟨rfl, _⟩ := h'
      exact (Array.getElem?_eq_some_iff.1 hgg).1
  have hgu : u.ownBlock ≠ some g := fun e => h.neO n hn g (by rw [hu]; exact e) rfl
  have hgu' : u'.ownBlock ≠ some g := by
    rcases hat with e | e
    · rw [e]; exact hgu
    · rw [e]; intro hc; simp at hc; omega
  have hk : Keep (fun j => u.ownBlock = some j) w w1 := (Keep.of_alloc (fun j => u.ownBlock = some j) _ o).trans (Keep.of_grown hg) (fun _ _ h => h)
  have hk2 : Keep (fun j => u.ownBlock = some j ∨ j = g) w (w1.setCell ⟨g, n, none⟩ u') :=
    (hk.weaken fun _ _ h => Or.inl h).trans (Keep.of_setCell _ _ _ _) (fun _ _ h => Or.inr h)
  have ho1 := ownsRow_keepV h.outer hk (fun j hj hu' => by simp [Value.ownBlock] at hj; subst hj; exact hgu hu')
  have hset := (World.ownsRow.stored ho1 n u').1
  refine ⟨by simpa using hset, by simp [h.len], ?_, ?_, ?_⟩
  · intro j hj
    simp at hj
    rw [getD_set _ _ _ _ _ hn, getD_set _ _ _ _ _ (by rw [← h.len]; exact hn)]
    by_cases e : j = n
    · rw [if_pos e, if_pos e]
      exact hown.keep (Keep.of_setCell w1 g n u') (fun b hb hbg => hgu' (by rw [hb, hbg]))
    · rw [if_neg e, if_neg e]
      refine (h.own j hj).keep hk2 ?_
      intro b hb hc
      rcases hc with hc | hc
      · rcases Nat.lt_or_gt_of_ne e with hlt | hlt
        · exact h.apart j n hlt hn b hb (by rw [hu]; exact hc)
        · exact h.apart n j hlt hj b (by rw [hu]; exact hc) hb
      · subst hc; exact h.neO j hj b hb rfl
  · intro j hj b hb
    simp at hj
    rw [getD_set _ _ _ _ _ hn] at hb
    by_cases e : j = n
    · rw [if_pos e] at hb; intro hc; simp [Value.ownBlock] at hc; exact hgu' (by rw [hb, hc])
    · rw [if_neg e] at hb; exact h.neO j hj b hb
  · intro i j hij hj b hb
    simp at hj
    rw [getD_set _ _ _ _ _ hn] at hb ⊢
    have old : ∀ k, k < vs.length → k ≠ n → ∀ b, (vs.getD k undef).ownBlock = some b → u'.ownBlock ≠ some b := by
      intro k hk hkn b hb hc
      rcases hat with e | e
      · rw [e] at hc
        rcases Nat.lt_or_gt_of_ne hkn with hlt | hlt
        · exact h.apart k n hlt hn b hb (by rw [hu]; exact hc)
        · exact h.apart n k hlt hk b (by rw [hu]; exact hc) hb
      · rw [e] at hc; simp at hc; have := ((h.own k hk).lt b hb).2; omega
    by_cases e1 : i = n
    · rw [if_pos e1] at hb
      rw [if_neg (by omega)]
      intro hc; exact old j hj (by omega) b hc hb
    · rw [if_neg e1] at hb
      by_cases e2 : j = n
      · rw [if_pos e2]; exact old i (by omega) e1 b hb
      · rw [if_neg e2]; exact h.apart i j hij hj b hb

/-- a slice of rows that is read -/
structure RdRows (w : World) (v : Value) (acc : List (List Int)) : Prop where
  shape : ∃ a cap, v = .slice a acc.length cap ∧ acc.length ≤ cap ∧ cap ≤ 9223372036854775807
  row : ∀ j, j < acc.length → ∃ b o cap u, v = .slice (some ⟨b, o, none⟩) acc.length cap ∧ w.cell? ⟨b, o + j, none⟩ = some u ∧ Rd .i32 w u (acc.getD j [])

theorem Rows2.rd {B : Nat} {w : World} {v : Value} {vs : List Value} {acc : List (List Int)} (h : Rows2 B w v vs acc) : RdRows w v acc := by
  obtain ⟨a, cap, rfl, h1, h2, h3⟩ := ownsRow_shapeV h.outer
  refine ⟨⟨a, cap, by rw [h.len], by rw [← h.len]; exact h1, h2⟩, fun j hj => ?_⟩
  rw [← h.len] at hj
  rcases h3 with ⟨rfl, rfl, rfl⟩ | ⟨g, rfl, _⟩
  · simp at hj
  · refine ⟨g, 0, cap, vs.getD j undef, by rw [h.len], ?_, (h.own j hj).rd⟩
    have := World.ownsRow.cellAt h.outer j (by omega)
    rw [Nat.zero_add, this]
    simp [hj]

theorem RdRows.keep {w w' : World} {v : Value} {acc : List (List Int)} (h : RdRows w v acc) {n : Nat} (hb : Below n w w') (hn : n = w.heap.size) : RdRows w' v acc :=
  ⟨h.shape, fun j hj => by
    obtain ⟨b, o, cap, u, h1, h2, h3⟩ := h.row j hj
    exact ⟨b, o, cap, u, h1, (hb.cell (p := ⟨b, o + j, none⟩) (by show b < n; have := cell_lt h2; omega)).trans h2, h3.mono hb hn⟩⟩

theorem ownsRow_ltV {w : World} {B : Nat} {e : TypeId} {v : Value} {xs : List Value} (h : w.ownsRow B e 1 v xs.length xs) : ∀ j, v.ownBlock = some j → B ≤ j ∧ j < w.heap.size := World.ownsRow.lt h

theorem Rows2.push_facts {B : Nat} {w w1 : World} {v v' : Value} {vs : List Value} {acc : List (List Int)} {o : Obj} (h : Rows2 B w v vs acc) (hB : B ≤ w.heap.size)
    (hown : w1.ownsRow B 22 1 v' (vs ++ [Value.slice none 0 0]).length (vs ++ [Value.slice none 0 0])) (hg : (w.alloc o).grownBy w1 v.ownBlock)
    (hat : v'.ownBlock = v.ownBlock ∨ v'.ownBlock = some (w.heap.size + 1)) :
    ∃ g cap, v' = .slice (some ⟨g, 0, none⟩) (vs.length + 1) cap ∧ Rows2 B w1 (.slice (some ⟨g, 0, none⟩) (vs.length + 1) cap) (vs ++ [Value.slice none 0 0]) (acc ++ [[]]) ∧
      w1.cell? ⟨g, vs.length, none⟩ = some (.slice none 0 0) ∧ Below B w w1 ∧ vs.length + 1 ≤ cap ∧ cap ≤ 9223372036854775807 := by
  have hr := h.push hown hg hat
  obtain ⟨a2, cap2, rfl, h1, h2, h3⟩ := ownsRow_shapeV hown
  rcases h3 with ⟨_, _, h3⟩ | ⟨g, rfl, h4, h5⟩
  · simp at h3
  · have hl : (vs ++ [Value.slice none 0 0]).length = vs.length + 1 := by simp
    rw [hl] at hr h1 hown
    refine ⟨g, cap2, by rw [hl], hr, ?_, (Keep.below (B := B) ((Keep.of_alloc (fun j => v.ownBlock = some j) _ o).trans (Keep.of_grown hg) (fun _ _ h => h)) hB (fun j hj => (ownsRow_ltV h.outer j hj).1)), h1, h2⟩
    have := World.ownsRow.cellAt hown vs.length (by omega)
    rw [this]; simp

theorem Rows2.grow_facts {B : Nat} {w w1 : World} {g cap n M : Nat} {u u' : Value} {vs : List Value} {acc : List (List Int)} {o : Obj} {x : Int} (h : Rows2 B w (.slice (some ⟨g, 0, none⟩) M cap) vs acc) (hM : M = vs.length) (hn : n < vs.length)
    (hB : B ≤ w.heap.size) (hu : vs.getD n undef = u) (hown : Own 21 .i32 B w1 u' (acc.getD n [] ++ [x])) (hg : (w.alloc o).grownBy w1 u.ownBlock) (hat : u'.ownBlock = u.ownBlock ∨ u'.ownBlock = some (w.heap.size + 1)) :
    Rows2 B (w1.setCell ⟨g, n, none⟩ u') (.slice (some ⟨g, 0, none⟩) M cap) (vs.set n u') (acc.set n (acc.getD n [] ++ [x])) ∧
      (∃ old, w1.cell? ⟨g, n, none⟩ = some old) ∧ w1.frozen? ⟨g, n, none⟩ = false ∧ Below B w (w1.setCell ⟨g, n, none⟩ u') := by
  subst hM
  have hk : Keep (fun j => u.ownBlock = some j) w w1 := (Keep.of_alloc (fun j => u.ownBlock = some j) _ o).trans (Keep.of_grown hg) (fun _ _ h => h)
  have hgu : u.ownBlock ≠ some g := fun e => h.neO n hn g (by rw [hu]; exact e) rfl
  have ho1 := ownsRow_keepV h.outer hk (fun j hj hu' => by simp [Value.ownBlock] at hj; subst hj; exact hgu hu')
  refine ⟨h.grow hn hu hown hg hat, ?_, World.ownsRow.frozenAt ho1 n, ?_⟩
  · have := World.ownsRow.cellAt ho1 n (by omega)
    exact ⟨vs.getD n undef, by rw [this]; simp [hn]⟩
  · have hub : ∀ j, u.ownBlock = some j → B ≤ j := fun j hj => ((h.own n hn).lt j (by rw [hu]; exact hj)).1
    have hgb : B ≤ g := (ownsRow_ltV h.outer g rfl).1
    exact (hk.below hB hub).setCell (p := ⟨g, n, none⟩) hgb u'

end Go.Proofs.Ytmipppnioanjeaa
