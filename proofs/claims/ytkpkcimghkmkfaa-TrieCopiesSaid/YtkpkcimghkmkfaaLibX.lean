/-
  Plain law of layer 6: what tells that ranges do not meet and are as long as can be; that ranges which do not meet may be set in whatever order.
-/
import Derived.Test.YtkpkcimghkmkfaaLibW
namespace Go.Proofs.Ytkpkcimghkmkfaa

/-- the test that the law makes of a range behind others -/
def tstR (pre : List Pc) (x : Pc) : Bool :=
  decide (x.2.2 = 0) || decide (x.2.1.val < x.1.val) || (match pre.getLast? with | some y => decide (x.1.val ≤ y.2.1.val) || decide (y.2.1.val + 1 = x.1.val ∧ y.2.2 = x.2.2) | none => false)
theorem tstR_nil (x : Pc) : tstR [] x = (decide (x.2.2 = 0) || decide (x.2.1.val < x.1.val)) := by simp [tstR]
theorem tstR_snoc (l : List Pc) (y x : Pc) : tstR (l ++ [y]) x = (decide (x.2.2 = 0) || decide (x.2.1.val < x.1.val) || (decide (x.1.val ≤ y.2.1.val) || decide (y.2.1.val + 1 = x.1.val ∧ y.2.2 = x.2.2))) := by
  unfold tstR; rw [List.getLast?_concat]
theorem Runs.tst {f : Nat → Int} {n : Nat} {l pre : List Pc} {x : Pc} (h : Runs 0 f n l) (hp : (pre ++ [x]) <+: l) : tstR pre x = false := by
  have hx : x ∈ l := hp.subset (by simp)
  obtain ⟨h1, h2, h3, h4⟩ := h.each x hx
  rcases List.eq_nil_or_concat pre with rfl | ⟨q, y, rfl⟩
  · rw [tstR_nil, decide_eq_false h3, decide_eq_false (by omega)]; rfl
  · rw [List.concat_eq_append] at hp ⊢
    obtain ⟨t, ht⟩ := hp
    have hr := h.rise
    have hf := h.far
    rw [← ht] at hr hf
    have hr2 := (List.pairwise_append.1 (List.pairwise_append.1 hr).1).2.2 y (by simp) x (by simp)
    have hf2 := (List.pairwise_append.1 (List.pairwise_append.1 hf).1).2.2 y (by simp) x (by simp)
    rw [tstR_snoc, decide_eq_false h3, decide_eq_false (by omega), decide_eq_false (by omega), decide_eq_false (fun e => hf2 e.1 e.2)]; rfl

/-- g tells what f tells, on those of the ranges l that were set: i of them, from the p-th on, going round -/
structure Went (f g : Nat → Int) (l : List Pc) (p i : Nat) : Prop where
  on : ∀ r, r < 1114112 → (∃ j, j < i ∧ ∃ s, l[(p + j) % l.length]? = some s ∧ s.1.val ≤ r ∧ r ≤ s.2.1.val) → g r = f r
  off : ∀ r, r < 1114112 → g r = f r ∨ g r = 0
theorem Went.start (f : Nat → Int) (l : List Pc) (p : Nat) : Went f (fun _ => 0) l p 0 := ⟨fun r _ ⟨j, hj, _⟩ => by omega, fun _ _ => .inr rfl⟩
theorem Went.step {f g : Nat → Int} {l : List Pc} {p i : Nat} {s : Pc} (h : Went f g l p i) (hR : Runs 0 f 1114112 l) (hs : l[(p + i) % l.length]? = some s) : Went f (setR g s.1.val s.2.1.val s.2.2) l p (i + 1) := by
  have hmem : s ∈ l := List.mem_of_getElem? hs
  obtain ⟨h1, h2, h3, h4⟩ := hR.each s hmem
  refine ⟨fun r hr hj => ?_, fun r hr => ?_⟩
  · unfold setR
    by_cases e : s.1.val ≤ r ∧ r ≤ s.2.1.val
    · rw [if_pos e, h4 r e.1 e.2]
    · rw [if_neg e]
      obtain ⟨j, hj, t, ht, ht1, ht2⟩ := hj
      by_cases ej : j = i
      · subst ej
        rw [hs] at ht
        obtain rfl := Option.some.inj ht
        exact absurd ⟨ht1, ht2⟩ e
      · exact h.on r hr ⟨j, by omega, t, ht, ht1, ht2⟩
  · unfold setR
    by_cases e : s.1.val ≤ r ∧ r ≤ s.2.1.val
    · rw [if_pos e, h4 r e.1 e.2]; exact .inl rfl
    · rw [if_neg e]; exact h.off r hr
theorem Went.all {f g : Nat → Int} {l : List Pc} {p : Nat} (h : Went f g l p l.length) (hR : Runs 0 f 1114112 l) (hp : l.length = 0 ∨ p < l.length) : ∀ r, r < 1114112 → g r = f r := by
  intro r hr
  by_cases e : f r = 0
  · rcases h.off r hr with h1 | h1
    · exact h1
    · rw [h1, e]
  · obtain ⟨s, hs, h1, h2⟩ := hR.all r hr e
    obtain ⟨q, hq, hqs⟩ := List.getElem_of_mem hs
    have hpl : p < l.length := by rcases hp with h0 | h0; omega; exact h0
    refine h.on r hr ⟨(q + (l.length - p)) % l.length, Nat.mod_lt _ (by omega), s, ?_, h1, h2⟩
    have : (p + (q + (l.length - p)) % l.length) % l.length = q := by
      rw [Nat.add_mod_mod]
      have : p + (q + (l.length - p)) = q + l.length := by omega
      rw [this, Nat.add_mod_right, Nat.mod_eq_of_lt hq]
    rw [this, List.getElem?_eq_getElem hq, hqs]

/-- where a rotation begins: Go's remainders -/
theorem rot_start (from_ : Int) (n : Nat) (hn : 0 < n) : ∃ p : Nat, p < n ∧ (from_.tmod n + n).tmod n = (p : Int) ∧ -(n : Int) < from_.tmod n ∧ from_.tmod n < n := by
  have h1 : -(n : Int) < from_.tmod n ∧ from_.tmod n < n := by
    rcases Int.le_total 0 from_ with h | h
    · rw [Int.tmod_eq_emod_of_nonneg h]
      have := Int.emod_nonneg from_ (b := (n : Int)) (by omega)
      have := Int.emod_lt_of_pos from_ (b := (n : Int)) (by omega)
      omega
    · obtain ⟨m, rfl⟩ : ∃ m : Nat, from_ = -(m : Int) := ⟨(-from_).toNat, by omega⟩
      rw [Int.neg_tmod, Int.tmod_eq_emod_of_nonneg (by omega)]
      have := Int.emod_nonneg (m : Int) (b := (n : Int)) (by omega)
      have := Int.emod_lt_of_pos (m : Int) (b := (n : Int)) (by omega)
      omega
  have h2 : 0 ≤ from_.tmod n + n := by omega
  refine ⟨((from_.tmod n + n) % n).toNat, ?_, ?_, h1.1, h1.2⟩
  · have := Int.emod_nonneg (from_.tmod n + n) (b := (n : Int)) (by omega)
    have := Int.emod_lt_of_pos (from_.tmod n + n) (b := (n : Int)) (by omega)
    omega
  · rw [Int.tmod_eq_emod_of_nonneg h2]
    have := Int.emod_nonneg (from_.tmod n + n) (b := (n : Int)) (by omega)
    omega

end Go.Proofs.Ytkpkcimghkmkfaa
