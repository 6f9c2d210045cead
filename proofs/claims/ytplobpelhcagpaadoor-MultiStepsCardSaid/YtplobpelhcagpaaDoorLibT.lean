/-
  Taking operations first in a region that draws, where what breaks S comes behind them: a check that is quick.
-/
import Derived.Test.YtplobpelhcagpaaDoorLibQ
namespace Go.Proofs.YtplobpelhcagpaaDoor
open Go.RowKit

section
variable {P : Program} {md : Region.Mode} {ops : Array Oper} {Q : Exit → Act → World → Prop} {S : World → Prop} {E : Nat → Bool}

theorem blkE_of {i : Nat} (D : Array Bool) (h1 : ∀ j o, ops[j]? = some o → D.getD j false = true → j = i ∨ ∃ e ∈ o.after, Region.binds md e = true ∧ D.getD e.on false = true)
    (L0 : Nat → Bool) (h2 : ∀ j o, ops[j]? = some o → E j = true → D.getD j false = true ∨ L0 j = true) : ∀ (fuel : Nat) (listed : Array Bool), (∀ j, D.getD j false = true → listed.getD j false = false) → (∀ j, L0 j = true → listed.getD j true = true) → blkE md ops E i fuel listed = true := by
  intro fuel
  induction fuel with
  | zero => intro _ _ _; rfl
  | succ fuel ih =>
    intro listed hL hL0
    refine List.all_eq_true.2 fun j hj => ?_
    obtain ⟨hun, o, ho, hall⟩ := mem_ready.1 hj
    by_cases e : j = i
    · simp [e]
    have hD : D.getD j false = false := by
      cases hd : D.getD j false with
      | false => rfl
      | true =>
        rcases h1 j o ho hd with h | ⟨e', he', hb, hd'⟩
        · exact absurd h e
        · have := hall e' he' hb
          rw [hL e'.on hd'] at this
          cases this
    have hE : E j = false := by
      cases h : E j with
      | false => rfl
      | true =>
        rcases h2 j o ho h with h' | h'
        · rw [hD] at h'; cases h'
        · rw [hL0 j h'] at hun; cases hun
    have hr := ih (listed.setIfInBounds j true) (fun k hk => by
      by_cases e2 : j = k
      · subst e2; rw [hD] at hk; cases hk
      · rw [getD_set_ne false e2]; exact hL k hk) (fun k hk => by
      by_cases e2 : j = k
      · subst e2; rw [hL0 j hk] at hun; cases hun
      · rw [getD_set_ne true e2]; exact hL0 k hk)
    rw [hE, hr]
    simp

/-- which operations come behind i -/
def descA (md : Region.Mode) (ops : Array Oper) (i : Nat) : Array Bool :=
  ops.toList.foldl (fun D o => D.push (D.size == i || o.after.any (fun e => Region.binds md e && D.getD e.on false))) #[]
def blkS (md : Region.Mode) (ops : Array Oper) (E : Nat → Bool) (i : Nat) (D : Array Bool) (listed : Array Bool) : Bool :=
  (List.range ops.size).all fun j => match ops[j]? with
    | none => true
    | some o => (!(D.getD j false) || (j == i || o.after.any (fun e => Region.binds md e && D.getD e.on false)) && !(listed.getD j false)) && (!(E j) || D.getD j false || listed.getD j true)
def blkT (md : Region.Mode) (ops : Array Oper) (E : Nat → Bool) (i : Nat) (listed : Array Bool) : Bool := blkS md ops E i (descA md ops i) listed && (descA md ops i).size == ops.size

theorem blkE_of_T {i fuel : Nat} {listed : Array Bool} (h : blkT md ops E i listed = true) : blkE md ops E i fuel listed = true := by
  unfold blkT at h
  generalize descA md ops i = D at h
  simp only [Bool.and_eq_true, beq_iff_eq] at h
  obtain ⟨h, hsz⟩ := h
  have hat : ∀ j o, ops[j]? = some o → (D.getD j false = true → (j = i ∨ ∃ e ∈ o.after, Region.binds md e = true ∧ D.getD e.on false = true) ∧ listed.getD j false = false) ∧ (E j = true → D.getD j false = true ∨ listed.getD j true = true) := by
    intro j o ho
    have hj := (Array.getElem?_eq_some_iff.1 ho).1
    have hx := List.all_eq_true.1 h j (List.mem_range.2 hj)
    rw [ho] at hx
    simp only [Bool.and_eq_true, Bool.or_eq_true, Bool.not_eq_true', beq_iff_eq] at hx
    refine ⟨fun hd => ?_, fun he => ?_⟩
    · rcases hx.1 with h1 | ⟨h1, h2⟩
      · rw [hd] at h1; cases h1
      · refine ⟨?_, h2⟩
        rcases h1 with h1 | h1
        · exact .inl h1
        · obtain ⟨k, hk, hp⟩ := Array.any_eq_true.1 h1
          simp only [Bool.and_eq_true] at hp
          exact .inr ⟨o.after[k], Array.getElem_mem hk, hp.1, hp.2⟩
    · rcases hx.2 with (h1 | h1) | h1
      · rw [he] at h1; cases h1
      · exact .inl h1
      · exact .inr h1
  refine blkE_of D (fun j o ho hd => ((hat j o ho).1 hd).1) (fun j => listed.getD j true) (fun j o ho he => (hat j o ho).2 he) fuel listed (fun j hd => ?_) (fun j h => h)
  have hj : j < ops.size := by
    rcases Nat.lt_or_ge j D.size with h' | h'
    · omega
    · have h0 : D.getD j false = false := by unfold Array.getD; rw [dif_neg (by omega)]
      rw [h0] at hd; cases hd
  exact ((hat j ops[j] (Array.getElem?_eq_getElem hj)).1 hd).2

theorem wpAnyE_firstW {i : Nat} {oi : Oper} {v : Value} (hi : ops[i]? = some oi) (hsel : ∀ (j : Nat) (o : Oper) cs b, ops[j]? = some o → o.op ≠ .select cs b) (hE : E i = true)
    (hQ : ∀ c a w, Q (.panic c) (a.put oi.dst v) w → Q (.panic c) a w) : ∀ (fuel : Nat) (listed : Array Bool) (a : Act) (w : World),
      (∀ j oj, ops[j]? = some oj → j ≠ i → listed.getD j true = false → (∀ e ∈ oj.after, Region.binds md e = true → e.on ≠ i) → oi.apart ops oj = true) →
      i ∈ Region.ready md ops listed → YieldsIf P ops (fun _ => True) oi v a →
      wpAnyE P md ops Q S E fuel (listed.setIfInBounds i true) (a.put oi.dst v) w → wpAnyE P md ops Q S E (fuel + 1) listed a w := by
  intro fuel
  induction fuel with
  | zero =>
    intro listed a w _ hr hy H
    refine ⟨fun h => by (rw [h] at hr; cases hr), fun j hj => ?_⟩
    by_cases e : j = i
    · subst e; exact hy.wpOp hi trivial ⟨fun h => (by rw [hE] at h; cases h), H⟩
    · have := ready_mono hj e
      rw [H.1] at this
      cases this
  | succ fuel ih =>
    intro listed a w hfree hr hy H
    refine ⟨fun h => by (rw [h] at hr; cases hr), fun j hj => ?_⟩
    by_cases e : j = i
    · subst e; exact hy.wpOp hi trivial ⟨fun h => (by rw [hE] at h; cases h), H⟩
    · obtain ⟨hjun, oj, hoj, _⟩ := mem_ready.1 hj
      have h2 := wpOp_putIf hoj (hfree j oj hoj e hjun (ready_not_after hr hj hoj)) (fun cs b => hsel i oi cs b hi) (fun cs b => hsel j oj cs b hoj) hQ hy (H.2 j (ready_mono hj e))
      refine wpOp_mono (fun a' w' h3 => ⟨h3.2.1, ih (listed.setIfInBounds j true) a' w' ?_ (ready_mono hr (Ne.symm e)) h3.1 ?_⟩) h2
      · intro k ok hk hki hun hno
        refine hfree k ok hk hki ?_ hno
        by_cases e2 : j = k
        · subst e2; exact hjun
        · rw [getD_set_ne true e2] at hun; exact hun
      · rw [Array.setIfInBounds_comm _ _ e]
        exact h3.2.2
/-- an operation of E that turns nothing is taken first -/
theorem wpAnyE_takeW {i : Nat} {oi : Oper} {d : Option Tmp} {v : Value} {fuel : Nat} {listed : Array Bool} {a : Act} {w : World} (hi : ops[i]? = some oi) (hd : oi.dst = d)
    (hs : Region.noSelect ops = true) (hf : Region.free md ops listed i = true) (hr : (Region.ready md ops listed).contains i = true) (hE : E i = true)
    (hQ : ∀ c a w, Q (.panic c) (a.put d v) w → Q (.panic c) a w) (hy : YieldsIf P ops (fun _ => True) oi v a)
    (h : wpAnyE P md ops Q S E fuel (listed.setIfInBounds i true) (a.put d v) w) : wpAnyE P md ops Q S E (fuel + 1) listed a w := by
  subst hd
  exact wpAnyE_firstW hi (Region.noSelect_spec hs) hE hQ fuel listed a w (Region.free_spec hi hf) (by simpa using hr) hy h

theorem wpAnyE_takeT {i : Nat} {oi : Oper} {d : Option Tmp} {v : Value} {fuel : Nat} {listed : Array Bool} {a : Act} {w : World} (hi : ops[i]? = some oi) (hd : oi.dst = d)
    (hs : Region.noSelect ops = true) (hf : Region.free md ops listed i = true) (hr : (Region.ready md ops listed).contains i = true) (hB : blkT md ops E i listed = true)
    (hQ : ∀ c a w, Q (.panic c) (a.put d v) w → Q (.panic c) a w) (hy : YieldsIf P ops S oi v a) (hS : S w)
    (h : wpAnyE P md ops Q S E fuel (listed.setIfInBounds i true) (a.put d v) w) : wpAnyE P md ops Q S E (fuel + 1) listed a w :=
  wpAnyE_takeD hi hd hs hf hr (blkE_of_T hB) hQ hy hS h
end

end Go.Proofs.YtplobpelhcagpaaDoor
