/-
  Multi: the plain law: what bytes are in parts, shifted, codes, Skip beside Replace.
-/
import Derived.Test.YtplobpelhcagpaaDoorMsP
namespace Go.Proofs.YtplobpelhcagpaaDoor
open Go.RowKit Go.Shelf Pl14

theorem nextR_app {ps : List CT} {q : Bytes} : ∀ {r pre : Bytes} {x : Nat × Bytes}, nextR ps pre r = some x → nextR ps pre (r ++ q) = some x
  | [], _, _, h => by simp [nextR] at h
  | b :: r, pre, x, h => by
    unfold nextR at h
    show (match lookT ps (pre ++ [b]) with | some t => some (pre.length + 1, t) | none => nextR ps (pre ++ [b]) (r ++ q)) = _
    cases hl : lookT ps (pre ++ [b]) with
    | some t' => rw [hl] at h; exact h
    | none => rw [hl] at h; exact nextR_app h
theorem nextR_none {ps : List CT} : ∀ {r pre : Bytes}, nextR ps pre r = none → ∀ j, 0 < j → j ≤ r.length → lookT ps (pre ++ r.take j) = none
  | [], _, _, j, h0, hj => by simp at hj; omega
  | b :: r, pre, h, j, h0, hj => by
    unfold nextR at h
    cases hl : lookT ps (pre ++ [b]) with
    | some t' => rw [hl] at h; simp at h
    | none =>
      rw [hl] at h
      obtain ⟨j, rfl⟩ : ∃ i, j = i + 1 := ⟨j - 1, by omega⟩
      by_cases h1 : j = 0
      · subst h1; simpa using hl
      · have := nextR_none h j (by omega) (by simpa using hj)
        simpa using this
theorem nextR_of_none {ps : List CT} {r : Bytes} (h : ∀ j, 0 < j → j ≤ r.length → lookT ps (r.take j) = none) : nextR ps [] r = none := by
  cases hr : nextR ps [] r with
  | none => rfl
  | some x =>
    obtain ⟨n, t⟩ := x
    have := nextR_some hr
    simp at this
    rw [h n (by omega) this.2.1] at this
    simp at this
theorem headB_of {ps : List CT} {h : Bytes} {p : CT} (hp : p ∈ ps) {j : Nat} (hj : j < p.1.data.toList.length) (e : h = p.1.data.toList.take j) : headB ps h = true := by
  unfold headB
  rw [List.any_eq_true]
  exact ⟨p, hp, decide_eq_true ⟨j, hj, e⟩⟩
theorem headB_ex {ps : List CT} {h : Bytes} (hh : headB ps h = true) : ∃ p ∈ ps, ∃ j, j < p.1.data.toList.length ∧ h = p.1.data.toList.take j := by
  unfold headB at hh
  obtain ⟨p, hp, hd⟩ := List.any_eq_true.1 hh
  exact ⟨p, hp, of_decide_eq_true hd⟩
theorem nextP_app {ps : List CT} {h q : Bytes} {n : Nat} {t : Bytes} {er : Int} (e : nextP ps h = (n, t, er)) (h18 : er ≠ 18) : nextP ps (h ++ q) = (n, t, er) := by
  unfold nextP at e ⊢
  cases hr : nextR ps [] h with
  | some x => rw [hr] at e; rw [nextR_app hr]; exact e
  | none =>
    rw [hr] at e
    simp at e
    obtain ⟨rfl, rfl, rfl⟩ := e
    have hb : headB ps h = false := by
      cases hb : headB ps h with
      | false => rfl
      | true => simp [hb] at h18
    have hn := nextR_none hr
    simp at hn
    have hN : nextR ps [] (h ++ q) = none := by
      apply nextR_of_none
      intro j h0 hj
      by_cases hjl : j ≤ h.length
      · rw [List.take_append_of_le_length hjl]; exact hn j h0 hjl
      · cases hl : lookT ps ((h ++ q).take j) with
        | none => rfl
        | some t =>
          obtain ⟨p, hp, e1, _⟩ := lookT_mem hl
          have := headB_of (h := h) hp (j := h.length) (by rw [e1, List.length_take]; omega) (by rw [e1, List.take_take, Nat.min_eq_left (by omega), List.take_left])
          rw [hb] at this; cases this
    have hB : headB ps (h ++ q) = false := by
      cases hx : headB ps (h ++ q) with
      | false => rfl
      | true =>
        obtain ⟨p, hp, j, hj, e⟩ := headB_ex hx
        have hle : h.length ≤ j := by have := congrArg List.length e; simp at this; omega
        have := headB_of (h := h) hp (j := h.length) (by omega) (by
          have := congrArg (List.take h.length) e
          rw [List.take_left, List.take_take, Nat.min_eq_left hle] at this
          exact this)
        rw [hb] at this; cases this
    rw [hN, hB, hb]

/-- answers in front of others -/
def StepA.pre (out : Bytes) (fs : List (Int × Int)) (x : StepA) : StepA := ⟨out ++ x.out, fs ++ x.fs, x.held, x.at_, x.closed, x.er⟩
theorem StepA.pre_nil (x : StepA) : StepA.pre [] [] x = x := by cases x; rfl
theorem StepA.pre_pre (a b : Bytes) (c d : List (Int × Int)) (x : StepA) : StepA.pre a c (StepA.pre b d x) = StepA.pre (a ++ b) (c ++ d) x := by simp [StepA.pre]
theorem stepR_acc (ps : List CT) (how : Int) : ∀ (f : Nat) (out : Bytes) (fs : List (Int × Int)) (held : Bytes) (at_ : Nat), stepR ps how f out fs held at_ = StepA.pre out fs (stepR ps how f [] [] held at_)
  | 0, out, fs, held, at_ => by simp [stepR, StepA.pre]
  | f + 1, out, fs, held, at_ => by
    rw [stepR, stepR]
    by_cases h0 : held = []
    · simp [h0, StepA.pre]
    · rw [if_neg h0, if_neg h0]
      obtain ⟨n, t, er, hn⟩ : ∃ n t er, nextP ps held = (n, t, er) := ⟨_, _, _, rfl⟩
      rw [hn]
      simp only
      by_cases e0 : er = 0
      · rw [if_pos e0, if_pos e0, stepR_acc ps how f (out ++ t), stepR_acc ps how f ([] ++ t), StepA.pre_pre]; simp
      · rw [if_neg e0, if_neg e0]
        by_cases e1 : er = 18
        · simp [e1, StepA.pre]
        · rw [if_neg e1, if_neg e1]
          by_cases e2 : how = 1
          · simp [e2, StepA.pre]
          · rw [if_neg e2, if_neg e2, stepR_acc ps how f (out ++ _), stepR_acc ps how f ([] ++ _), StepA.pre_pre]; simp
theorem stepR_fuel (ps : List CT) (how : Int) : ∀ (f g : Nat) (out : Bytes) (fs : List (Int × Int)) (held : Bytes) (at_ : Nat), held.length < f → held.length < g → stepR ps how f out fs held at_ = stepR ps how g out fs held at_
  | 0, _, _, _, _, _, h, _ => by omega
  | _ + 1, 0, _, _, _, _, _, h => by omega
  | f + 1, g + 1, out, fs, held, at_, h1, h2 => by
    rw [stepR, stepR]
    by_cases h0 : held = []
    · simp [h0]
    · rw [if_neg h0, if_neg h0]
      have hpos : 0 < held.length := List.length_pos_iff.2 h0
      obtain ⟨n, t, er, hn⟩ : ∃ n t er, nextP ps held = (n, t, er) := ⟨_, _, _, rfl⟩
      rw [hn]
      simp only
      rcases nextP_cases ps held hn with ⟨rfl, a, b, c⟩ | ⟨rfl, rfl, rfl⟩ | ⟨rfl, rfl, rfl⟩
      · rw [if_pos rfl, if_pos rfl]; exact stepR_fuel ps how f g _ _ _ _ (by rw [List.length_drop]; omega) (by rw [List.length_drop]; omega)
      · simp
      · by_cases e2 : how = 1
        · simp [e2]
        · simp only [if_neg e2]
          rw [if_neg (by decide), if_neg (by decide), if_neg (by decide)]
          exact stepR_fuel ps how f g _ _ _ _ (by rw [List.length_drop]; omega) (by rw [List.length_drop]; omega)
theorem stepP_eq (ps : List CT) (how : Int) (held : Bytes) (at_ f : Nat) (hf : held.length < f) : stepR ps how f [] [] held at_ = stepP ps how held at_ := stepR_fuel ps how _ _ _ _ _ _ hf (Nat.lt_succ_self _)
theorem stepP_nil (ps : List CT) (how : Int) (at_ : Nat) : stepP ps how [] at_ = ⟨[], [], [], at_, false, 0⟩ := by simp [stepP, stepR]
theorem stepP_ok {ps : List CT} {how : Int} {held : Bytes} {at_ n : Nat} {t : Bytes} (h : nextP ps held = (n, t, 0)) : stepP ps how held at_ = StepA.pre t [] (stepP ps how (held.drop n) (at_ + n)) := by
  rcases nextP_cases ps held h with ⟨-, a, b, c⟩ | ⟨h, _⟩ | ⟨h, _⟩
  · have h0 : held ≠ [] := by intro e; subst e; simp at b; omega
    conv => lhs; rw [stepP, stepR]
    rw [if_neg h0, h]
    simp only [if_true]
    rw [stepR_acc, stepP_eq _ _ _ _ _ (by rw [List.length_drop]; omega)]
    rfl
  · simp at h
  · simp at h
theorem stepP_more {ps : List CT} {how : Int} {held : Bytes} {at_ n : Nat} {t : Bytes} (h : nextP ps held = (n, t, 18)) : stepP ps how held at_ = ⟨[], [], held, at_, false, 0⟩ := by
  rw [stepP, stepR]
  by_cases h0 : held = []
  · simp [h0]
  · rw [if_neg h0, h]; simp
theorem stepP_bad {ps : List CT} {how : Int} {held : Bytes} {at_ n : Nat} {t : Bytes} (h0 : held ≠ []) (h : nextP ps held = (n, t, 17)) : stepP ps how held at_ = if how = 1 then ⟨badOf how, [((at_ : Int), 1)], [], at_ + 1, true, 17⟩ else StepA.pre (badOf how) [((at_ : Int), 1)] (stepP ps how (held.drop 1) (at_ + 1)) := by
  have hpos : 0 < held.length := List.length_pos_iff.2 h0
  conv => lhs; rw [stepP, stepR]
  rw [if_neg h0, h]
  simp only
  rw [if_neg (by decide), if_neg (by decide)]
  by_cases e : how = 1
  · simp [e]
  · rw [if_neg e, if_neg e, stepR_acc, stepP_eq _ _ _ _ _ (by rw [List.length_drop]; omega)]; simp
/-- going on -/
theorem stepP_app (ps : List CT) (how : Int) (q : Bytes) : ∀ (k : Nat) (h : Bytes) (at_ : Nat), h.length ≤ k → stepP ps how (h ++ q) at_ =
    (if (stepP ps how h at_).er = 0 then StepA.pre (stepP ps how h at_).out (stepP ps how h at_).fs (stepP ps how ((stepP ps how h at_).held ++ q) (stepP ps how h at_).at_) else stepP ps how h at_) := by
  intro k
  induction k with
  | zero =>
    intro h at_ hk
    obtain rfl : h = [] := by simpa using hk
    rw [stepP_nil]; simp [StepA.pre_nil]
  | succ k ih =>
    intro h at_ hk
    by_cases h0 : h = []
    · subst h0; rw [stepP_nil]; simp [StepA.pre_nil]
    have hpos : 0 < h.length := List.length_pos_iff.2 h0
    obtain ⟨n, t, er, hn⟩ : ∃ n t er, nextP ps h = (n, t, er) := ⟨_, _, _, rfl⟩
    rcases nextP_cases ps h hn with ⟨rfl, a, b, c⟩ | ⟨rfl, rfl, rfl⟩ | ⟨rfl, rfl, rfl⟩
    · have e1 := stepP_ok (how := how) (at_ := at_) (nextP_app (q := q) hn (by decide))
      rw [List.drop_append_of_le_length b, ih (h.drop n) (at_ + n) (by rw [List.length_drop]; omega)] at e1
      rw [e1, stepP_ok hn]
      generalize stepP ps how (h.drop n) (at_ + n) = x
      by_cases hx : x.er = 0 <;> simp [StepA.pre, hx]
    · rw [stepP_more hn]; simp [StepA.pre_nil]
    · have e1 := stepP_bad (how := how) (at_ := at_) (show h ++ q ≠ [] by simp [h0]) (nextP_app (q := q) hn (by decide))
      rw [stepP_bad h0 hn]
      by_cases e2 : how = 1
      · rw [if_pos e2] at e1
        rw [e1, if_pos e2]; simp
      · rw [if_neg e2, List.drop_append_of_le_length (by omega), ih (h.drop 1) (at_ + 1) (by rw [List.length_drop]; omega)] at e1
        rw [e1, if_neg e2]
        generalize stepP ps how (h.drop 1) (at_ + 1) = x
        by_cases hx : x.er = 0 <;> simp [StepA.pre, hx]
/-- what is held stays held -/
theorem stepP_held (ps : List CT) (how : Int) : ∀ (k : Nat) (h : Bytes) (at_ : Nat), h.length ≤ k → (stepP ps how h at_).er = 0 → (stepP ps how h at_).held = [] ∨ ∃ n t, nextP ps (stepP ps how h at_).held = (n, t, 18) := by
  intro k
  induction k with
  | zero =>
    intro h at_ hk _
    obtain rfl : h = [] := by simpa using hk
    rw [stepP_nil]; exact .inl rfl
  | succ k ih =>
    intro h at_ hk hx
    by_cases h0 : h = []
    · subst h0; rw [stepP_nil]; exact .inl rfl
    have hpos : 0 < h.length := List.length_pos_iff.2 h0
    obtain ⟨n, t, er, hn⟩ : ∃ n t er, nextP ps h = (n, t, er) := ⟨_, _, _, rfl⟩
    rcases nextP_cases ps h hn with ⟨rfl, a, b, c⟩ | ⟨rfl, rfl, rfl⟩ | ⟨rfl, rfl, rfl⟩
    · rw [stepP_ok hn] at hx ⊢
      exact ih _ _ (by rw [List.length_drop]; omega) hx
    · rw [stepP_more hn]; exact .inr ⟨_, _, hn⟩
    · rw [stepP_bad h0 hn] at hx ⊢
      by_cases e2 : how = 1
      · rw [if_pos e2] at hx; simp at hx
      · rw [if_neg e2] at hx ⊢
        exact ih _ _ (by rw [List.length_drop]; omega) hx
theorem stepP_stuck {ps : List CT} {how : Int} {h : Bytes} {at_ : Nat} (hh : h = [] ∨ ∃ n t, nextP ps h = (n, t, 18)) : stepP ps how h at_ = ⟨[], [], h, at_, false, 0⟩ := by
  rcases hh with rfl | ⟨n, t, h⟩
  · exact stepP_nil ps how at_
  · exact stepP_more h

/-- what all bytes are -/
def allP (ps : List CT) (how : Int) (s : Bytes) (at_ : Nat) : Bytes × List (Int × Int) × Int :=
  let x := stepP ps how s at_
  if x.er = 0 then let y := flushP how x.held x.at_; (x.out ++ y.1, x.fs ++ y.2.1, y.2.2) else (x.out, x.fs, x.er)
def catB (parts : List ByteArray) : Bytes := (parts.map (·.data.toList)).flatten
theorem allP_app (ps : List CT) (how : Int) (h q : Bytes) (at_ : Nat) : allP ps how (h ++ q) at_ = if (stepP ps how h at_).er = 0 then let y := allP ps how ((stepP ps how h at_).held ++ q) (stepP ps how h at_).at_; ((stepP ps how h at_).out ++ y.1, (stepP ps how h at_).fs ++ y.2.1, y.2.2) else ((stepP ps how h at_).out, (stepP ps how h at_).fs, (stepP ps how h at_).er) := by
  unfold allP
  rw [stepP_app ps how q _ h at_ (Nat.le_refl _)]
  generalize stepP ps how h at_ = x
  by_cases hx : x.er = 0
  · rw [if_pos hx, if_pos hx]
    generalize stepP ps how (x.held ++ q) x.at_ = y
    by_cases hy : y.er = 0 <;> simp [StepA.pre, hy]
  · simp [hx]
theorem decR_all (ps : List CT) (how : Int) : ∀ (parts : List ByteArray) (held : Bytes) (at_ : Nat) (out : Bytes) (fs : List (Int × Int)), (held = [] ∨ ∃ n t, nextP ps held = (n, t, 18)) →
    decR ps how parts held at_ out fs = (out ++ (allP ps how (held ++ catB parts) at_).1, fs ++ (allP ps how (held ++ catB parts) at_).2.1, (allP ps how (held ++ catB parts) at_).2.2) := by
  intro parts
  induction parts with
  | nil =>
    intro held at_ out fs hh
    have e : held ++ catB [] = held := by simp [catB]
    rw [e, decR]
    unfold allP
    rw [stepP_stuck hh]
    simp
  | cons p r ih =>
    intro held at_ out fs hh
    have e : held ++ catB (p :: r) = (held ++ p.data.toList) ++ catB r := by simp [catB]
    rw [e, allP_app, decR]
    have hst := stepP_held ps how _ (held ++ p.data.toList) at_ (Nat.le_refl _)
    generalize stepP ps how (held ++ p.data.toList) at_ = x at hst
    simp only
    by_cases hx : x.er = 0
    · rw [if_pos hx, if_pos hx, ih _ _ _ _ (hst hx)]; simp
    · rw [if_neg hx, if_neg hx]
theorem decP_all (ps : List CT) (how : Int) (parts : List ByteArray) : decP ps how parts = allP ps how (catB parts) 0 := by
  rw [decP, decR_all ps how parts [] 0 [] [] (.inl rfl)]; simp

/-! ### shifted -/
def shF (d : Nat) (fs : List (Int × Int)) : List (Int × Int) := fs.map (fun f => (f.1 + (d : Int), f.2))
theorem stepP_shift (ps : List CT) (how : Int) (d : Nat) : ∀ (k : Nat) (h : Bytes) (at_ : Nat), h.length ≤ k → stepP ps how h (at_ + d) = ⟨(stepP ps how h at_).out, shF d (stepP ps how h at_).fs, (stepP ps how h at_).held, (stepP ps how h at_).at_ + d, (stepP ps how h at_).closed, (stepP ps how h at_).er⟩ := by
  intro k
  induction k with
  | zero =>
    intro h at_ hk
    obtain rfl : h = [] := by simpa using hk
    rw [stepP_nil, stepP_nil]; rfl
  | succ k ih =>
    intro h at_ hk
    by_cases h0 : h = []
    · subst h0; rw [stepP_nil, stepP_nil]; rfl
    have hpos : 0 < h.length := List.length_pos_iff.2 h0
    obtain ⟨n, t, er, hn⟩ : ∃ n t er, nextP ps h = (n, t, er) := ⟨_, _, _, rfl⟩
    rcases nextP_cases ps h hn with ⟨rfl, a, b, c⟩ | ⟨rfl, rfl, rfl⟩ | ⟨rfl, rfl, rfl⟩
    · rw [stepP_ok hn, stepP_ok hn, show at_ + d + n = (at_ + n) + d by omega, ih _ _ (by rw [List.length_drop]; omega)]
      simp [StepA.pre]
    · rw [stepP_more hn, stepP_more hn]; rfl
    · rw [stepP_bad h0 hn, stepP_bad h0 hn]
      by_cases e2 : how = 1
      · simp [e2, shF]; omega
      · rw [if_neg e2, if_neg e2, show at_ + d + 1 = (at_ + 1) + d by omega, ih _ _ (by rw [List.length_drop]; omega)]
        simp [StepA.pre, shF]
theorem allP_shift (ps : List CT) (how : Int) (d : Nat) (h : Bytes) (at_ : Nat) : allP ps how h (at_ + d) = ((allP ps how h at_).1, shF d (allP ps how h at_).2.1, (allP ps how h at_).2.2) := by
  unfold allP
  rw [stepP_shift ps how d _ h at_ (Nat.le_refl _)]
  generalize stepP ps how h at_ = x
  by_cases hx : x.er = 0
  · simp only [if_pos hx]
    unfold flushP
    by_cases h1 : x.held = []
    · simp [h1]
    · by_cases h2 : how = 1
      · simp [h1, h2, shF]
      · simp [h1, h2, shF]
  · simp [hx]

/-! ### codes -/
/-- texts that begin with a code are read as it -/
def PreFree (ps : List CT) : Prop := ∀ p ∈ ps, p.1.data.toList ≠ [] ∧ lookT ps p.1.data.toList = some p.2.data.toList ∧ ∀ j, 0 < j → j < p.1.data.toList.length → lookT ps (p.1.data.toList.take j) = none
theorem nextR_first {ps : List CT} {t : Bytes} {q : Bytes} : ∀ (c pre : Bytes), c ≠ [] → lookT ps (pre ++ c) = some t → (∀ j, 0 < j → j < c.length → lookT ps (pre ++ c.take j) = none) → nextR ps pre (c ++ q) = some (pre.length + c.length, t)
  | [], _, h0, _, _ => absurd rfl h0
  | b :: r, pre, _, hl, hno => by
    show (match lookT ps (pre ++ [b]) with | some t => some (pre.length + 1, t) | none => nextR ps (pre ++ [b]) (r ++ q)) = _
    by_cases hr : r = []
    · subst hr; rw [hl]; rfl
    · have h1 := hno 1 (by omega) (by simp; exact List.length_pos_iff.2 hr)
      simp at h1
      rw [h1]
      simp only
      rw [nextR_first (t := t) r (pre ++ [b]) hr (by simpa using hl) (fun j h0 hj => by have := hno (j + 1) (by omega) (by simpa using hj); simpa using this)]
      simp; omega
theorem PreFree.next {ps : List CT} (h : PreFree ps) {p : CT} (hp : p ∈ ps) (q : Bytes) : nextP ps (p.1.data.toList ++ q) = (p.1.data.toList.length, p.2.data.toList, 0) := by
  obtain ⟨h0, h1, h2⟩ := h p hp
  have := nextR_first (ps := ps) (t := p.2.data.toList) (q := q) p.1.data.toList [] h0 (by simpa using h1) (by simpa using h2)
  unfold nextP
  rw [this]; simp
theorem PreFree.step {ps : List CT} (h : PreFree ps) (how : Int) : ∀ (cs : List CT) (at_ : Nat), (∀ p ∈ cs, p ∈ ps) → ∀ q, stepP ps how ((cs.map (·.1.data.toList)).flatten ++ q) at_ = StepA.pre (cs.map (·.2.data.toList)).flatten [] (stepP ps how q (at_ + (cs.map (·.1.data.toList)).flatten.length))
  | [], at_, _, q => by simp [StepA.pre_nil]
  | p :: cs, at_, hc, q => by
    have e := h.next (hc p (by simp)) ((cs.map (·.1.data.toList)).flatten ++ q)
    rw [show ((p :: cs).map (·.1.data.toList)).flatten ++ q = p.1.data.toList ++ ((cs.map (·.1.data.toList)).flatten ++ q) by simp, stepP_ok e, List.drop_left, PreFree.step h how cs _ (fun p hp => hc p (by simp [hp])) q, StepA.pre_pre]
    have eL : ((p :: cs).map (·.1.data.toList)).flatten.length = p.1.data.toList.length + (cs.map (·.1.data.toList)).flatten.length := by simp
    rw [eL, ← Nat.add_assoc]
    simp
theorem PreFree.all {ps : List CT} (h : PreFree ps) (how : Int) (cs : List CT) (hc : ∀ p ∈ cs, p ∈ ps) (q : Bytes) : allP ps how ((cs.map (·.1.data.toList)).flatten ++ q) 0 =
    ((cs.map (·.2.data.toList)).flatten ++ (allP ps how q 0).1, shF (cs.map (·.1.data.toList)).flatten.length (allP ps how q 0).2.1, (allP ps how q 0).2.2) := by
  have e := allP_shift ps how (cs.map (·.1.data.toList)).flatten.length q 0
  have e2 : allP ps how ((cs.map (·.1.data.toList)).flatten ++ q) 0 = ((cs.map (·.2.data.toList)).flatten ++ (allP ps how q (0 + (cs.map (·.1.data.toList)).flatten.length)).1, (allP ps how q (0 + (cs.map (·.1.data.toList)).flatten.length)).2.1, (allP ps how q (0 + (cs.map (·.1.data.toList)).flatten.length)).2.2) := by
    unfold allP
    rw [PreFree.step h how cs 0 hc q]
    generalize stepP ps how q (0 + (cs.map (·.1.data.toList)).flatten.length) = x
    by_cases hx : x.er = 0 <;> simp [StepA.pre, hx]
  rw [e2, e]

/-! ### Skip and Replace -/
theorem step_both (ps : List CT) : ∀ (k : Nat) (h : Bytes) (at_ : Nat), h.length ≤ k → ∃ x o2, stepP ps 3 h at_ = x ∧ stepP ps 2 h at_ = ⟨o2, x.fs, x.held, x.at_, false, 0⟩ ∧ x.er = 0 ∧ x.closed = false ∧ o2.length = x.out.length + 3 * x.fs.length := by
  intro k
  induction k with
  | zero =>
    intro h at_ hk
    obtain rfl : h = [] := by simpa using hk
    exact ⟨_, [], rfl, by rw [stepP_nil, stepP_nil], by rw [stepP_nil], by rw [stepP_nil], by rw [stepP_nil]; rfl⟩
  | succ k ih =>
    intro h at_ hk
    by_cases h0 : h = []
    · subst h0; exact ⟨_, [], rfl, by rw [stepP_nil, stepP_nil], by rw [stepP_nil], by rw [stepP_nil], by rw [stepP_nil]; rfl⟩
    have hpos : 0 < h.length := List.length_pos_iff.2 h0
    obtain ⟨n, t, er, hn⟩ : ∃ n t er, nextP ps h = (n, t, er) := ⟨_, _, _, rfl⟩
    rcases nextP_cases ps h hn with ⟨rfl, a, b, c⟩ | ⟨rfl, rfl, rfl⟩ | ⟨rfl, rfl, rfl⟩
    · obtain ⟨x, o2, h1, h2, h3, h4, h5⟩ := ih (h.drop n) (at_ + n) (by rw [List.length_drop]; omega)
      refine ⟨_, t ++ o2, rfl, ?_, ?_, ?_, ?_⟩
      · rw [stepP_ok hn, stepP_ok hn, h2, h1]; simp [StepA.pre]
      · rw [stepP_ok hn, h1]; exact h3
      · rw [stepP_ok hn, h1]; exact h4
      · rw [stepP_ok hn, h1]; simp [StepA.pre, h5]; omega
    · exact ⟨_, [], rfl, by rw [stepP_more hn, stepP_more hn], by rw [stepP_more hn], by rw [stepP_more hn], by rw [stepP_more hn]; rfl⟩
    · obtain ⟨x, o2, h1, h2, h3, h4, h5⟩ := ih (h.drop 1) (at_ + 1) (by rw [List.length_drop]; omega)
      refine ⟨_, badB ++ o2, rfl, ?_, ?_, ?_, ?_⟩
      · rw [stepP_bad h0 hn, stepP_bad h0 hn, if_neg (by decide), if_neg (by decide), h2, h1]; simp [StepA.pre, badOf]
      · rw [stepP_bad h0 hn, if_neg (by decide), h1]; exact h3
      · rw [stepP_bad h0 hn, if_neg (by decide), h1]; exact h4
      · rw [stepP_bad h0 hn, if_neg (by decide), h1]; simp [StepA.pre, h5, badOf, badB]; omega
/-- codes, one behind the other -/
def decO (ps : List CT) : Nat → Bytes → Option Bytes
  | 0, h => if h = [] then some [] else none
  | f + 1, h => if h = [] then some [] else match nextP ps h with
    | (n, t, er) => if er = 0 then (decO ps f (h.drop n)).map (t ++ ·) else none
theorem nextP_take {ps : List CT} {h : Bytes} {n : Nat} {t : Bytes} (e : nextP ps h = (n, t, 0)) : nextP ps (h.take n) = (n, t, 0) := by
  rcases nextP_cases ps h e with ⟨-, a, b, c⟩ | ⟨h, _⟩ | ⟨h, _⟩
  · obtain ⟨n', t', er', hn⟩ : ∃ n' t' er', nextP ps (h.take n) = (n', t', er') := ⟨_, _, _, rfl⟩
    have hne : er' ≠ 18 ∧ er' ≠ 17 := by
      cases hr : nextR ps [] (h.take n) with
      | some x => unfold nextP at hn; rw [hr] at hn; simp at hn; omega
      | none =>
        have := nextR_none hr n a (by rw [List.length_take]; omega)
        rw [List.nil_append, List.take_take, Nat.min_self, c] at this
        cases this
    have := nextP_app (q := h.drop n) hn hne.1
    rw [List.take_append_drop, e] at this
    rw [hn, this]
  · simp at h
  · simp at h
theorem decO_snoc {ps : List CT} {n : Nat} {t h2 : Bytes} (e : nextP ps h2 = (n, t, 0)) : ∀ (f : Nat) (h1 t0 : Bytes), h1.length ≤ f → decO ps f h1 = some t0 → ∀ g, (h1 ++ h2.take n).length ≤ g → decO ps g (h1 ++ h2.take n) = some (t0 ++ t) := by
  have e' := nextP_take e
  rcases nextP_cases ps h2 e with ⟨-, a, b, c⟩ | ⟨h, _⟩ | ⟨h, _⟩
  case inr.inl => simp at h
  case inr.inr => simp at h
  have hl : (h2.take n).length = n := by rw [List.length_take]; omega
  have hne : h2.take n ≠ [] := by intro h; rw [h] at hl; simp at hl; omega
  have base : ∀ g, (h2.take n).length ≤ g → decO ps g (h2.take n) = some t := by
    intro g hg
    obtain ⟨g, rfl⟩ : ∃ k, g = k + 1 := ⟨g - 1, by omega⟩
    have hd : (h2.take n).drop n = [] := by simp
    rw [decO, if_neg hne, e']
    simp only [if_true]
    rw [hd]
    cases g <;> simp [decO]
  intro f
  induction f with
  | zero =>
    intro h1 t0 hf hd g hg
    obtain rfl : h1 = [] := by simpa using hf
    simp [decO] at hd
    subst hd
    exact base g hg
  | succ f ih =>
    intro h1 t0 hf hd g hg
    by_cases h0 : h1 = []
    · subst h0
      simp [decO] at hd
      subst hd
      exact base g hg
    · have hpos : 0 < h1.length := List.length_pos_iff.2 h0
      rw [decO, if_neg h0] at hd
      obtain ⟨n', t', er', hn⟩ : ∃ n t er, nextP ps h1 = (n, t, er) := ⟨_, _, _, rfl⟩
      rw [hn] at hd
      simp only at hd
      by_cases he : er' = 0
      · subst he
        rw [if_pos rfl] at hd
        obtain ⟨u, hu, rfl⟩ := Option.map_eq_some_iff.1 hd
        obtain ⟨g, rfl⟩ : ∃ k, g = k + 1 := ⟨g - 1, by rw [List.length_append] at hg; omega⟩
        rcases nextP_cases ps h1 hn with ⟨-, a', b', c'⟩ | ⟨h, _⟩ | ⟨h, _⟩
        · rw [decO, if_neg (by simp [h0]), nextP_app hn (by decide)]
          simp only [if_true]
          rw [List.drop_append_of_le_length b', ih _ _ (by rw [List.length_drop]; omega) hu g (by rw [List.length_append, List.length_drop]; rw [List.length_append] at hg; omega)]
          simp
        · simp at h
        · simp at h
      · rw [if_neg he] at hd; cases hd
/-- faults, and what is between them -/
def SegP (ps : List CT) (s : Bytes) : Nat → List (Int × Int) → Bytes → Prop
  | at_, [], out => at_ ≤ s.length ∧ decO ps s.length (s.drop at_) = some out
  | at_, f :: fs, out => ∃ (a l : Nat) (t o : Bytes), f = ((a : Int), (l : Int)) ∧ at_ ≤ a ∧ 1 ≤ l ∧ a + l ≤ s.length ∧ decO ps s.length ((s.take a).drop at_) = some t ∧ SegP ps s (a + l) fs o ∧ out = t ++ o
theorem seg_go (ps : List CT) (s : Bytes) : ∀ (k st at_ : Nat) (t0 : Bytes), st ≤ at_ → at_ ≤ s.length → s.length - at_ ≤ k → decO ps s.length ((s.take at_).drop st) = some t0 →
    SegP ps s st (allP ps 3 (s.drop at_) at_).2.1 (t0 ++ (allP ps 3 (s.drop at_) at_).1) := by
  intro k
  induction k with
  | zero =>
    intro st at_ t0 h1 h2 h3 h4
    have e : s.drop at_ = [] := List.drop_eq_nil_of_le (by omega)
    rw [e]
    unfold allP
    rw [stepP_nil]
    simp [flushP]
    rw [List.take_of_length_le (by omega)] at h4
    exact ⟨by omega, h4⟩
  | succ k ih =>
    intro st at_ t0 h1 h2 h3 h4
    by_cases h0 : s.drop at_ = []
    · have hl := congrArg List.length h0
      rw [List.length_drop] at hl
      simp at hl
      rw [h0]
      unfold allP
      rw [stepP_nil]
      simp [flushP]
      rw [List.take_of_length_le (by omega)] at h4
      exact ⟨by omega, h4⟩
    have hpos : 0 < (s.drop at_).length := List.length_pos_iff.2 h0
    have hdl : (s.drop at_).length = s.length - at_ := List.length_drop
    have hz : ∀ (m : Nat), decO ps m [] = some [] := fun m => by cases m <;> simp [decO]
    obtain ⟨n, t, er, hn⟩ : ∃ n t er, nextP ps (s.drop at_) = (n, t, er) := ⟨_, _, _, rfl⟩
    rcases nextP_cases ps _ hn with ⟨rfl, a, b, c⟩ | ⟨rfl, rfl, rfl⟩ | ⟨rfl, rfl, rfl⟩
    · have hal : allP ps 3 (s.drop at_) at_ = (t ++ (allP ps 3 (s.drop (at_ + n)) (at_ + n)).1, (allP ps 3 (s.drop (at_ + n)) (at_ + n)).2.1, (allP ps 3 (s.drop (at_ + n)) (at_ + n)).2.2) := by
        unfold allP
        rw [stepP_ok hn, List.drop_drop]
        generalize stepP ps 3 (s.drop (at_ + n)) (at_ + n) = x
        by_cases hx : x.er = 0 <;> simp [StepA.pre, hx]
      have hcat : (s.take (at_ + n)).drop st = (s.take at_).drop st ++ (s.drop at_).take n := by
        rw [List.take_add, List.drop_append_of_le_length (by rw [List.length_take]; omega)]
      have h4' := decO_snoc hn s.length _ t0 (by rw [List.length_drop, List.length_take]; omega) h4 s.length (by rw [← hcat, List.length_drop, List.length_take]; omega)
      rw [← hcat] at h4'
      rw [hal]
      have := ih st (at_ + n) (t0 ++ t) (by omega) (by omega) (by omega) h4'
      simpa using this
    · unfold allP
      rw [stepP_more hn]
      simp only [if_true, flushP, if_neg h0, List.nil_append, List.append_nil, hdl]
      rw [if_neg (show ¬ (3 : Int) = 1 by decide)]
      refine ⟨at_, s.length - at_, t0, [], rfl, h1, by omega, by omega, h4, ⟨by omega, ?_⟩, by simp [badOf]⟩
      rw [List.drop_eq_nil_of_le (by omega)]; exact hz _
    · have hal : allP ps 3 (s.drop at_) at_ = ((allP ps 3 (s.drop (at_ + 1)) (at_ + 1)).1, ((at_ : Int), 1) :: (allP ps 3 (s.drop (at_ + 1)) (at_ + 1)).2.1, (allP ps 3 (s.drop (at_ + 1)) (at_ + 1)).2.2) := by
        unfold allP
        rw [stepP_bad h0 hn, if_neg (show ¬ (3 : Int) = 1 by decide), List.drop_drop]
        generalize stepP ps 3 (s.drop (at_ + 1)) (at_ + 1) = x
        by_cases hx : x.er = 0 <;> simp [StepA.pre, hx, badOf]
      rw [hal]
      have := ih (at_ + 1) (at_ + 1) [] (by omega) (by omega) (by omega) (by rw [List.drop_eq_nil_of_le (by rw [List.length_take]; omega)]; exact hz _)
      exact ⟨at_, 1, t0, _, rfl, h1, by omega, by omega, h4, by simpa using this, rfl⟩
theorem seg_all (ps : List CT) (s : Bytes) : SegP ps s 0 (allP ps 3 s 0).2.1 (allP ps 3 s 0).1 := by
  have := seg_go ps s s.length 0 0 [] (Nat.le_refl _) (Nat.zero_le _) (by omega) (by simp; cases s.length <;> simp [decO])
  simpa using this
theorem all_both (ps : List CT) (s : Bytes) : ∃ o2, allP ps 2 s 0 = (o2, (allP ps 3 s 0).2.1, 0) ∧ (allP ps 3 s 0).2.2 = 0 ∧ o2.length = (allP ps 3 s 0).1.length + 3 * (allP ps 3 s 0).2.1.length := by
  obtain ⟨x, o2, h1, h2, h3, h4, h5⟩ := step_both ps s.length s 0 (Nat.le_refl _)
  unfold allP
  rw [h1, h2]
  simp only [h3, if_true]
  by_cases h6 : x.held = []
  · exact ⟨o2, by simp [flushP, h6], by simp [flushP, h6], by simp [flushP, h6, h5]⟩
  · exact ⟨o2 ++ badB, by simp [flushP, h6, badOf], by simp [flushP, h6], by simp [flushP, h6, h5, badOf, badB]; omega⟩

/-! ### rows -/
theorem PreFree.row {ps : List CT} {c t : ByteArray} {fl : Int} (h : PreFree ps) (hr : RowOk ps c t fl) : PreFree (rowPs ps c t fl) := by
  unfold rowPs
  by_cases h1 : fl = 1
  · rw [if_pos h1]; exact h
  rw [if_neg h1]
  obtain ⟨hc, -, hd⟩ := hr
  have hsz : 1 ≤ c.size := by
    unfold checkE at hc
    by_cases hcond : c.size < 1 ∨ 4 < c.size ∨ (Lib.runeCount t : Int) < 1 ∨ 18 < (Lib.runeCount t : Int) ∨ Lib.validD t.data.toList = false
    · rw [if_pos hcond] at hc; cases hc
    · omega
  have hne : c.data.toList ≠ [] := by
    intro e
    have h0 : c.size = 0 := by rw [size_toList, e]; rfl
    omega
  rcases hd with hd | ⟨d1, d2, d3⟩
  · exact absurd hd h1
  intro p hp
  rcases List.mem_append.1 hp with hp | hp
  · obtain ⟨a, b, e⟩ := h p hp
    refine ⟨a, by rw [lookT_snoc, b], fun j h0 hj => ?_⟩
    rw [lookT_snoc, e j h0 hj]
    have hno : ¬ c.data.toList = p.1.data.toList.take j := by
      intro e
      have := headB_of hp hj e
      rw [d2] at this; cases this
    exact if_neg hno
  · obtain rfl : p = (c, t) := by simpa using hp
    refine ⟨hne, by rw [lookT_snoc, d1]; exact if_pos rfl, fun j h0 hj => ?_⟩
    rw [lookT_snoc, d3 j hj]
    refine if_neg ?_
    intro e
    have := congrArg List.length e
    rw [List.length_take] at this
    have hj' : j < c.data.toList.length := hj
    have h' : c.data.toList.length = min j c.data.toList.length := this
    omega
theorem PreFree.rows : ∀ {rs : List MRow} {ps : List CT}, PreFree ps → RowsFrom ps rs → PreFree (psFrom ps rs)
  | [], _, h, _ => h
  | r :: rs, _, h, hr => PreFree.rows (rs := rs) (h.row hr.1) hr.2
theorem preFree_of {rs : List MRow} (h : RowsOk rs) : PreFree (psOf rs) := PreFree.rows (fun p hp => by simp at hp) h
theorem psFrom_eq : ∀ (rs : List MRow) (ps : List CT), psFrom ps rs = ps ++ (rs.filter (fun r => decide (r.2.2 ≠ 1))).map (fun r => (r.1, r.2.1))
  | [], ps => by simp [psFrom]
  | r :: rs, ps => by
    show psFrom (rowPs ps r.1 r.2.1 r.2.2) rs = _
    rw [psFrom_eq rs]
    unfold rowPs
    by_cases h : r.2.2 = 1 <;> simp [h]
theorem psOf_eq (rs : List MRow) : psOf rs = (rs.filter (fun r => decide (r.2.2 ≠ 1))).map (fun r => (r.1, r.2.1)) := by
  rw [psOf, psFrom_eq]; rfl
theorem mem_psOf {rs : List MRow} {r : MRow} (h : r ∈ rs) (h1 : r.2.2 ≠ 1) : (r.1, r.2.1) ∈ psOf rs := by
  rw [psOf_eq]
  exact List.mem_map.2 ⟨r, List.mem_filter.2 ⟨h, by simpa using h1⟩, rfl⟩
theorem of_mem_psOf {rs : List MRow} {p : CT} (h : p ∈ psOf rs) : ∃ r ∈ rs, r.2.2 ≠ 1 ∧ p = (r.1, r.2.1) := by
  rw [psOf_eq] at h
  obtain ⟨r, hr, e⟩ := List.mem_map.1 h
  obtain ⟨h1, h2⟩ := List.mem_filter.1 hr
  exact ⟨r, h1, by simpa using h2, e.symm⟩
/-- rows that are not too many, or too great -/
def FewOk (rs : List MRow) : Prop := rs.length ≤ 40 ∧ ∀ r ∈ rs, r.1.size ≤ 200 ∧ r.2.1.size ≤ 200
theorem FewOk.texts {rs : List MRow} (h : FewOk rs) : ∀ r ∈ rs, r.2.1.size ≤ 300000 := fun r hr => by have := (h.2 r hr).2; omega
theorem FewOk.le {rs : List MRow} (h : FewOk rs) : textsLe (psOf rs) := fun p hp => by
  obtain ⟨r, hr, -, rfl⟩ := of_mem_psOf hp
  have := (h.2 r hr).2
  show r.2.1.size ≤ 300000
  omega

end Go.Proofs.YtplobpelhcagpaaDoor
