/-
  Plain law of layer 6: the document's answer: spans that were set, the last one first asked; where the next edge is; how many blocks.
-/
import Derived.Test.YtkpkcimghkmkfaaLibP
import Derived.Test.YtkpkcimghkmkfaaTrE
namespace Go.Proofs.Ytkpkcimghkmkfaa
open Go.RowKit

/-- what a list of spans tells -/
def refF (z : Int) (L : List Pc) : Nat → Int := L.foldl (fun f s => setR f s.1.val s.2.1.val s.2.2) (fun _ => z)
theorem refF_nil (z : Int) : refF z [] = fun _ => z := rfl
theorem refF_snoc (z : Int) (L : List Pc) (s : Pc) : refF z (L ++ [s]) = setR (refF z L) s.1.val s.2.1.val s.2.2 := by simp [refF]
theorem refF_in {z : Int} {L : List Pc} {s : Pc} {r : Nat} (h1 : s.1.val ≤ r) (h2 : r ≤ s.2.1.val) : refF z (L ++ [s]) r = s.2.2 := by
  rw [refF_snoc]; unfold setR; rw [if_pos ⟨h1, h2⟩]
theorem refF_out {z : Int} {L : List Pc} {s : Pc} {r : Nat} (h : ¬ (s.1.val ≤ r ∧ r ≤ s.2.1.val)) : refF z (L ++ [s]) r = refF z L r := by
  rw [refF_snoc]; unfold setR; rw [if_neg h]
theorem refF_same (z : Int) (r x : Nat) : ∀ L : List Pc, (∀ s ∈ L, (s.1.val ≤ x ∧ x ≤ s.2.1.val) ↔ (s.1.val ≤ r ∧ r ≤ s.2.1.val)) → refF z L x = refF z L r := by
  refine snoc_ind (p := fun L => (∀ s ∈ L, (s.1.val ≤ x ∧ x ≤ s.2.1.val) ↔ (s.1.val ≤ r ∧ r ≤ s.2.1.val)) → refF z L x = refF z L r) (fun _ => rfl) ?_
  intro L s ih h
  have h1 := h s (by simp)
  have h2 := ih fun t ht => h t (List.mem_append_left _ ht)
  rw [refF_snoc]
  unfold setR
  by_cases e : s.1.val ≤ r ∧ r ≤ s.2.1.val
  · rw [if_pos e, if_pos (h1.2 e)]
  · rw [if_neg e, if_neg (fun e' => e (h1.1 e')), h2]

/-- o is an edge behind r, or ahead of the first one -/
structure EdgeAt (L : List Pc) (r o : Nat) : Prop where
  gt : r < o
  le : o ≤ 1114112
  each : ∀ s ∈ L, (s.1.val ≤ r ∨ o ≤ s.1.val) ∧ (s.2.1.val + 1 ≤ r ∨ o ≤ s.2.1.val + 1)
theorem EdgeAt.start (r : Nat) (h : r < 1114112) : EdgeAt [] r 1114112 := ⟨h, Nat.le_refl _, by simp⟩
theorem EdgeAt.step {L : List Pc} {r o o' : Nat} {s : Pc} (h : EdgeAt L r o) (h1 : o' ≤ o) (h2 : r < o') (ha : s.1.val ≤ r ∨ o' ≤ s.1.val) (hb : s.2.1.val + 1 ≤ r ∨ o' ≤ s.2.1.val + 1) : EdgeAt (L ++ [s]) r o' := by
  refine ⟨h2, by have := h.le; omega, fun t ht => ?_⟩
  rcases List.mem_append.1 ht with ht | ht
  · have := h.each t ht
    constructor <;> omega
  · obtain rfl := List.mem_singleton.1 ht
    exact ⟨ha, hb⟩
theorem EdgeAt.const {z : Int} {L : List Pc} {r o x : Nat} (h : EdgeAt L r o) (h1 : r ≤ x) (h2 : x < o) : refF z L x = refF z L r := by
  refine refF_same z r x L fun s hs => ?_
  have := h.each s hs
  omega

theorem Runs.skip {z : Int} {f : Nat → Int} {n n' : Nat} {xs : List Pc} (h : Runs z f n xs) (hn : n ≤ n') (hz : ∀ r, n ≤ r → r < n' → f r = z) : Runs z f n' xs := ⟨h.toPieces.skip hn hz, h.far⟩
theorem Runs.next {z : Int} {f : Nat → Int} {n n' : Nat} {l : List Pc} (h : Runs z f n l) (x : Pc) (h1 : x.1.val = n) (h2 : x.2.1.val + 1 = n') (hn : n < n') (hz : x.2.2 ≠ z) (hc : ∀ r, n ≤ r → r < n' → f r = x.2.2) : Runs z f n' (mergeStep l x) :=
  Runs.step (h.toPieces.add x h1 h2 hn hz hc) (by rw [h1]; exact h)
theorem Runs.nil (z : Int) (f : Nat → Int) : Runs z f 0 [] := ⟨Pieces.nil z f, List.Pairwise.nil⟩

/-- one span more, if it is one -/
def addV (L : List Pc) (s : Int × Int × Int) : List Pc := if h : 0 ≤ s.1 ∧ s.2.1 ≤ 1114111 ∧ s.1 ≤ s.2.1 then L ++ [(⟨s.1.toNat, by omega⟩, ⟨s.2.1.toNat, by omega⟩, s.2.2)] else L
theorem addV_ok (L : List Pc) (a t v : Int) (h : 0 ≤ a ∧ t ≤ 1114111 ∧ a ≤ t) : ∃ x : Pc, x.1.val = a.toNat ∧ x.2.1.val = t.toNat ∧ x.2.2 = v ∧ addV L (a, t, v) = L ++ [x] :=
  ⟨(⟨a.toNat, by omega⟩, ⟨t.toNat, by omega⟩, v), rfl, rfl, rfl, by unfold addV; rw [dif_pos h]⟩
theorem addV_bad (L : List Pc) (a t v : Int) (h : ¬ (0 ≤ a ∧ t ≤ 1114111 ∧ a ≤ t)) : addV L (a, t, v) = L := by unfold addV; rw [dif_neg h]
theorem addV_le (L : List Pc) (s : Int × Int × Int) : (addV L s).length ≤ L.length + 1 := by unfold addV; split <;> simp
def refL (ss : List (Int × Int × Int)) : List Pc := ss.foldl addV []
theorem refL_snoc (ss : List (Int × Int × Int)) (s : Int × Int × Int) : refL (ss ++ [s]) = addV (refL ss) s := by simp [refL]
theorem refL_len (ss : List (Int × Int × Int)) : (refL ss).length ≤ ss.length := by
  refine snoc_ind (p := fun ss => (refL ss).length ≤ ss.length) (by simp [refL]) ?_ ss
  intro xs x ih
  rw [refL_snoc]
  have := addV_le (refL xs) x
  simp; omega

/-! how many blocks -/
def touchB (l : List Pc) (a : Nat) : Bool := l.any fun s => decide (s.1.val / 256 ≤ a ∧ a ≤ s.2.1.val / 256)
theorem touchB_iff {l : List Pc} {a : Nat} : touchB l a = true ↔ ∃ s ∈ l, s.1.val / 256 ≤ a ∧ a ≤ s.2.1.val / 256 := by simp [touchB]
theorem count_span (p q : Nat → Bool) (a b : Nat) (hq : ∀ x, q x = (p x || decide (a ≤ x ∧ x ≤ b))) (hp : ∀ x, a ≤ x → x ≤ b → p x = false) : ∀ n, ((List.range n).filter q).length = ((List.range n).filter p).length + (min n (b + 1) - a) := by
  intro n
  induction n with
  | zero => simp
  | succ n ih =>
    rw [List.range_succ, List.filter_append, List.filter_append, List.length_append, List.length_append, ih]
    have e : [n].filter q = if q n then [n] else [] := by simp [List.filter_cons]
    have e2 : [n].filter p = if p n then [n] else [] := by simp [List.filter_cons]
    rw [e, e2, hq n]
    by_cases h : a ≤ n ∧ n ≤ b
    · rw [hp n h.1 h.2, decide_eq_true h]
      simp
      omega
    · rw [decide_eq_false h, Bool.or_false]
      have : min (n + 1) (b + 1) - a = min n (b + 1) - a := by omega
      rw [this]
      cases p n <;> simp <;> omega

def cntT (l : List Pc) : Nat := ((List.range 4352).filter (touchB l)).length
/-- the last block that was told -/
structure LastAt (l : List Pc) (last : Int) : Prop where
  le : ∀ a, touchB l a = true → (a : Int) ≤ last
  is : last = -1 ∧ l = [] ∨ ∃ b : Nat, last = b ∧ b < 4352 ∧ touchB l b = true ∧ ∀ s ∈ l, s.2.1.val / 256 ≤ b
theorem LastAt.start : LastAt [] (-1) := ⟨fun a h => by simp [touchB] at h, .inl ⟨rfl, rfl⟩⟩
theorem touchB_snoc (l : List Pc) (s : Pc) (a : Nat) : touchB (l ++ [s]) a = (touchB l a || decide (s.1.val / 256 ≤ a ∧ a ≤ s.2.1.val / 256)) := by simp [touchB]

theorem cntT_step {l : List Pc} {s : Pc} {last : Int} (h : LastAt l last) (hle : s.1.val ≤ s.2.1.val) (hp : ∀ t ∈ l, t.2.1.val < s.1.val) {a b : Int} (ha : a = (s.1.val : Int) / 256) (hb : b = (s.2.1.val : Int) / 256) :
    (a = last → (a + 1 ≤ b → cntT (l ++ [s]) = cntT l + (b - (a + 1)).toNat + 1 ∧ LastAt (l ++ [s]) b) ∧ (¬ a + 1 ≤ b → cntT (l ++ [s]) = cntT l ∧ LastAt (l ++ [s]) last)) ∧
    (a ≠ last → a ≤ b ∧ cntT (l ++ [s]) = cntT l + (b - a).toNat + 1 ∧ LastAt (l ++ [s]) b) := by
  have hs1 : s.1.val < 1114112 := s.1.isLt
  have hs2 : s.2.1.val < 1114112 := s.2.1.isLt
  have hlast : last ≤ a := by
    rcases h.is with ⟨h1, _⟩ | ⟨c, h1, h2, h3, h4⟩
    · omega
    · obtain ⟨t, ht, t1, t2⟩ := touchB_iff.1 h3
      have := hp t ht
      omega
  have mkLast : LastAt (l ++ [s]) b := by
    refine ⟨fun x hx => ?_, .inr ⟨s.2.1.val / 256, by omega, by omega, ?_, ?_⟩⟩
    · rw [touchB_snoc, Bool.or_eq_true, decide_eq_true_eq] at hx
      rcases hx with hx | hx
      · have := h.le x hx; omega
      · omega
    · rw [touchB_snoc, Bool.or_eq_true, decide_eq_true_eq]; exact .inr ⟨by omega, Nat.le_refl _⟩
    · intro t ht
      rcases List.mem_append.1 ht with ht | ht
      · have := hp t ht; omega
      · obtain rfl := List.mem_singleton.1 ht; exact Nat.le_refl _
  refine ⟨fun e => ⟨fun hab => ⟨?_, mkLast⟩, fun hab => ?_⟩, fun e => ⟨by omega, ?_, mkLast⟩⟩
  · unfold cntT
    rw [count_span (touchB l) (touchB (l ++ [s])) (s.1.val / 256 + 1) (s.2.1.val / 256) (fun x => ?_) (fun x h1 h2 => ?_)]
    · omega
    · rw [touchB_snoc]
      rcases h.is with ⟨h1, _⟩ | ⟨c, h1, h2, h3, h4⟩
      · omega
      · by_cases ex : x = s.1.val / 256
        · have : x = c := by omega
          rw [this, h3]; simp
        · have e2 : decide (s.1.val / 256 ≤ x ∧ x ≤ s.2.1.val / 256) = decide (s.1.val / 256 + 1 ≤ x ∧ x ≤ s.2.1.val / 256) := decide_eq_decide.2 (by omega)
          rw [e2]
    · rw [← Bool.not_eq_true]; intro ht; have := h.le x ht; omega
  · have hba : b = a := by omega
    refine ⟨?_, by rw [← e, ← hba]; exact mkLast⟩
    unfold cntT
    refine count_same _ _ _ fun x _ => ?_
    rw [touchB_snoc]
    rcases h.is with ⟨h1, _⟩ | ⟨c, h1, h2, h3, h4⟩
    · omega
    · by_cases ex : x = s.1.val / 256
      · have : x = c := by omega
        rw [this, h3]; simp
      · rw [decide_eq_false (by omega), Bool.or_false]
  · unfold cntT
    rw [count_span (touchB l) (touchB (l ++ [s])) (s.1.val / 256) (s.2.1.val / 256) (fun x => touchB_snoc l s x) (fun x h1 h2 => ?_)]
    · omega
    · rw [← Bool.not_eq_true]; intro ht; have := h.le x ht; omega

theorem Runs.count {z : Int} {f : Nat → Int} {l : List Pc} (h : Runs z f 1114112 l) : cntT l = cntB z f := by
  unfold cntT cntB
  refine (count_same _ _ _ fun a ha => ?_).symm
  rw [Bool.eq_iff_iff, touchB_iff, apartB_iff]
  constructor
  · rintro ⟨s, hs, h1, h2⟩
    obtain ⟨e1, e2, e3, e4⟩ := h.each s hs
    by_cases e : a * 256 ≤ s.1.val
    · refine ⟨s.1.val - a * 256, by omega, ?_⟩
      rw [show a * 256 + (s.1.val - a * 256) = s.1.val by omega, e4 _ (Nat.le_refl _) e1]; exact e3
    · refine ⟨0, by omega, ?_⟩
      rw [e4 (a * 256 + 0) (by omega) (by omega)]; exact e3
  · rintro ⟨j, hj, hne⟩
    obtain ⟨s, hs, h1, h2⟩ := h.all _ (by omega) hne
    exact ⟨s, hs, by omega, by omega⟩

end Go.Proofs.Ytkpkcimghkmkfaa
