/-
  The plain law of layer 14 (marks): lists of numbers, no program in sight.
-/
namespace Pl14

/-- a character's class in the small database -/
def cls (r : Int) : Int :=
  if r = 0x300 ∨ r = 0x301 ∨ r = 0x302 ∨ r = 0x303 ∨ r = 0x304 ∨ r = 0x308 ∨ r = 0x30a then 230
  else if r = 0x323 ∨ r = 0x324 ∨ r = 0x331 then 220
  else if r = 0x327 ∨ r = 0x328 then 202
  else if r = 0x338 then 1
  else if r = 0x345 then 240
  else 0

theorem cls_cases (r : Int) : cls r = 0 ∨ cls r = 1 ∨ cls r = 202 ∨ cls r = 220 ∨ cls r = 230 ∨ cls r = 240 := by
  unfold cls; repeat' split
  all_goals simp

theorem cls_nonneg (r : Int) : 0 ≤ cls r := by rcases cls_cases r with h | h | h | h | h | h <;> omega
theorem cls_le (r : Int) : cls r ≤ 240 := by rcases cls_cases r with h | h | h | h | h | h <;> omega

/-! ### moving marks behind their bases -/

/-- one character pushed: what is out, what is held -/
def push1 (s : List Int × List Int) (x : Int) : List Int × List Int :=
  if cls x = 0 then (s.1 ++ x :: s.2, []) else (s.1, s.2 ++ [x])

def pushL (h l : List Int) : List Int × List Int := l.foldl push1 ([], h)
def behind (l : List Int) : List Int := (pushL [] l).1
def heldL (l : List Int) : List Int := (pushL [] l).2
def ahead (l : List Int) : List Int := (behind l.reverse).reverse

theorem foldl_push1_out (l : List Int) : ∀ o h, l.foldl push1 (o, h) = (o ++ (l.foldl push1 ([], h)).1, (l.foldl push1 ([], h)).2) := by
  induction l with
  | nil => intro o h; simp
  | cons x l ih =>
    intro o h
    simp only [List.foldl_cons]
    by_cases hx : cls x = 0
    · simp only [push1, hx, if_true, List.nil_append]
      rw [ih (o ++ x :: h) [], ih (x :: h) []]
      simp [List.append_assoc]
    · simp only [push1, hx, if_false]
      exact ih o (h ++ [x])

theorem pushL_append (h l m : List Int) : pushL h (l ++ m) = ((pushL h l).1 ++ (pushL (pushL h l).2 m).1, (pushL (pushL h l).2 m).2) := by
  unfold pushL
  rw [List.foldl_append]
  conv => lhs; rw [show l.foldl push1 ([], h) = ((l.foldl push1 ([], h)).1, (l.foldl push1 ([], h)).2) from rfl]
  rw [foldl_push1_out m]

theorem pushL_snoc (h l : List Int) (x : Int) : pushL h (l ++ [x]) = push1 (pushL h l) x := by
  unfold pushL; rw [List.foldl_append]; rfl

theorem pushL_nil (h : List Int) : pushL h [] = ([], h) := rfl

theorem pushL_cons (h l : List Int) (x : Int) : pushL h (x :: l) = if cls x = 0 then (x :: h ++ (pushL [] l).1, (pushL [] l).2) else pushL (h ++ [x]) l := by
  unfold pushL
  simp only [List.foldl_cons]
  by_cases hx : cls x = 0
  · simp only [push1, hx, if_true, List.nil_append]
    rw [foldl_push1_out]
  · simp only [push1, hx, if_false]


theorem pushL_marks (m : List Int) : ∀ h, (∀ x ∈ m, cls x ≠ 0) → pushL h m = ([], h ++ m) := by
  induction m with
  | nil => intro h _; simp [pushL]
  | cons x m ih =>
    intro h hm
    rw [pushL_cons, if_neg (hm x (by simp)), ih _ (fun y hy => hm y (by simp [hy]))]
    simp

theorem pushL_base (h l : List Int) (x : Int) (hx : cls x = 0) : pushL h (l ++ [x]) = ((pushL h l).1 ++ x :: (pushL h l).2, []) := by
  rw [pushL_snoc]; simp [push1, hx]

theorem pushL_mark (h l : List Int) (x : Int) (hx : cls x ≠ 0) : pushL h (l ++ [x]) = ((pushL h l).1, (pushL h l).2 ++ [x]) := by
  rw [pushL_snoc]; simp [push1, hx]

/-- what is held behind the first k characters, if a row of marks stands there -/
theorem held_run (p m : List Int) (hp : p = [] ∨ ∃ q b, p = q ++ [b] ∧ cls b = 0) (hm : ∀ x ∈ m, cls x ≠ 0) :
    pushL [] (p ++ m) = (behind p, m) := by
  rw [pushL_append, pushL_marks m _ hm]
  rcases hp with rfl | ⟨q, b, rfl, hb⟩
  · simp [pushL, behind]
  · simp [behind, pushL_base _ _ _ hb]

theorem pushL_len (l : List Int) : ∀ h, (pushL h l).1.length + (pushL h l).2.length = h.length + l.length := by
  induction l with
  | nil => intro h; simp [pushL]
  | cons x l ih =>
    intro h
    rw [pushL_cons]
    by_cases hx : cls x = 0
    · simp only [hx, if_true]; have := ih []; simp at this ⊢; omega
    · simp only [hx, if_false]; have := ih (h ++ [x]); simp at this ⊢; omega

theorem pushL_held_marks (l : List Int) : ∀ h, (∀ x ∈ h, cls x ≠ 0) → ∀ x ∈ (pushL h l).2, cls x ≠ 0 := by
  induction l with
  | nil => intro h hh; simpa [pushL] using hh
  | cons x l ih =>
    intro h hh
    rw [pushL_cons]
    by_cases hx : cls x = 0
    · simp only [hx, if_true]; exact ih [] (by simp)
    · simp only [hx, if_false]; refine ih _ ?_
      intro y hy
      simp at hy
      rcases hy with hy | rfl
      · exact hh y hy
      · exact hx

/-- a text is: its part that ends with a base (or is empty), and the marks behind -/
theorem split_end (l : List Int) : ∃ p m, l = p ++ m ∧ (p = [] ∨ ∃ q b, p = q ++ [b] ∧ cls b = 0) ∧ ∀ x ∈ m, cls x ≠ 0 := by
  induction l with
  | nil => exact ⟨[], [], rfl, .inl rfl, by simp⟩
  | cons x l ih =>
    obtain ⟨p, m, rfl, hp, hm⟩ := ih
    rcases hp with rfl | ⟨q, b, rfl, hb⟩
    · by_cases hx : cls x = 0
      · exact ⟨[x], m, by simp, .inr ⟨[], x, rfl, hx⟩, hm⟩
      · refine ⟨[], x :: m, by simp, .inl rfl, ?_⟩
        intro y hy
        simp at hy
        rcases hy with rfl | hy
        · exact hx
        · exact hm y hy
    · exact ⟨x :: (q ++ [b]), m, by simp, .inr ⟨x :: q, b, by simp, hb⟩, hm⟩

/-! ### moving marks ahead of their bases -/

theorem behind_nil : behind [] = [] := rfl

theorem behind_marks (m : List Int) (hm : ∀ x ∈ m, cls x ≠ 0) : behind m = [] := by
  simp [behind, pushL_marks m [] hm]

theorem ahead_marks (m : List Int) (hm : ∀ x ∈ m, cls x ≠ 0) : ahead m = [] := by
  unfold ahead; rw [behind_marks _ (by simpa using hm)]; rfl

theorem behind_marks_base (m p : List Int) (b : Int) (hm : ∀ x ∈ m, cls x ≠ 0) (hb : cls b = 0) : behind (m ++ b :: p) = b :: m ++ behind p := by
  unfold behind
  rw [pushL_append, pushL_marks m [] hm]
  simp [pushL_cons, hb]

theorem ahead_snoc (p m : List Int) (b : Int) (hm : ∀ x ∈ m, cls x ≠ 0) (hb : cls b = 0) : ahead (p ++ b :: m) = ahead p ++ m ++ [b] := by
  unfold ahead
  rw [show (p ++ b :: m).reverse = m.reverse ++ b :: p.reverse from by simp]
  rw [behind_marks_base _ _ _ (by simpa using hm) hb]
  simp

theorem ahead_cons_marks (m p : List Int) (hm : ∀ x ∈ m, cls x ≠ 0) (hp : p = [] ∨ ∃ b q, p = b :: q ∧ cls b = 0) :
    pushL [] (m ++ p).reverse = ((ahead p).reverse, m.reverse) := by
  rw [List.reverse_append]
  have h := held_run p.reverse m.reverse ?_ (by simpa using hm)
  · rw [h]; simp [ahead]
  · rcases hp with rfl | ⟨b, q, rfl, hb⟩
    · simp
    · exact .inr ⟨q.reverse, b, by simp, hb⟩

/-! ### P14.3: there and back -/

/-- behind of a text that is: marks, base, marks, .. , that ends with a base, and marks left away; ahead of it is the text without these marks -/
theorem ahead_behind (l : List Int) : ahead (behind l) = l.take (l.length - (heldL l).length) := by
  have key : ∀ n (l : List Int), l.length ≤ n → (l = [] ∨ ∃ q b, l = q ++ [b] ∧ cls b = 0) → ahead (behind l) = l := by
    intro n
    induction n with
    | zero => intro l hl _; have : l = [] := List.eq_nil_of_length_eq_zero (by omega); subst this; rfl
    | succ n ih =>
      intro l hl h
      rcases h with rfl | ⟨q, b, rfl, hb⟩
      · rfl
      · obtain ⟨p, m, rfl, hp, hm⟩ := split_end q
        have h1 : behind (p ++ m ++ [b]) = behind p ++ b :: m := by
          unfold behind
          rw [pushL_base _ _ _ hb, held_run p m hp hm]; simp [behind]
        rw [h1, ahead_snoc _ _ _ hm hb, ih p (by simp at hl; omega) hp]
  obtain ⟨p, m, rfl, hp, hm⟩ := split_end l
  have hpush := held_run p m hp hm
  have hb : behind (p ++ m) = behind p := by unfold behind at *; rw [hpush]
  have hh : heldL (p ++ m) = m := by unfold heldL; rw [hpush]
  rw [hb, hh, key _ p (Nat.le_refl _) hp]
  simp

theorem behind_ahead (l : List Int) : behind (ahead l) = l.drop (heldL l.reverse).length := by
  have h := ahead_behind l.reverse
  have e : behind (ahead l) = (ahead (behind l.reverse)).reverse := by simp [ahead]
  have hl := pushL_len l.reverse []
  simp at hl
  have : l.reverse.length - (l.reverse.length - (heldL l.reverse).length) = (heldL l.reverse).length := by unfold heldL; simp; omega
  rw [e, h, List.reverse_take, this]; simp

theorem pushL_head (l : List Int) : ∀ h, (pushL h l).1 = [] ∨ ∃ b q, (pushL h l).1 = b :: q ∧ cls b = 0 := by
  induction l with
  | nil => intro h; exact .inl rfl
  | cons x l ih =>
    intro h
    rw [pushL_cons]
    by_cases hx : cls x = 0
    · simp only [hx, if_true]; exact .inr ⟨x, h ++ (pushL [] l).1, by simp, hx⟩
    · simp only [hx, if_false]; exact ih _

theorem held_of_base_end (l : List Int) (h : l = [] ∨ ∃ q b, l = q ++ [b] ∧ cls b = 0) : heldL l = [] := by
  rcases h with rfl | ⟨q, b, rfl, hb⟩
  · rfl
  · unfold heldL; rw [pushL_base _ _ _ hb]

theorem held_behind_reverse (l : List Int) : heldL (behind l).reverse = [] := by
  refine held_of_base_end _ ?_
  rcases pushL_head l [] with h | ⟨b, q, h, hb⟩
  · left; unfold behind; rw [h]; rfl
  · right; refine ⟨q.reverse, b, ?_, hb⟩; unfold behind; rw [h]; simp

theorem held_ahead (l : List Int) : heldL (ahead l) = [] := held_behind_reverse l.reverse

theorem behind_length (l : List Int) : (behind l).length + (heldL l).length = l.length := by
  have := pushL_len l []; simpa [behind, heldL] using this

theorem ahead_length (l : List Int) : (ahead l).length + (heldL l.reverse).length = l.length := by
  have := behind_length l.reverse; simpa [ahead] using this

/-! ### bases stay in their order -/
def bases (l : List Int) : List Int := l.filter (fun x => cls x = 0)
def ofC (c : Int) (l : List Int) : List Int := l.filter (fun x => cls x = c)

theorem bases_marks (m : List Int) (hm : ∀ x ∈ m, cls x ≠ 0) : bases m = [] := by
  unfold bases; rw [List.filter_eq_nil_iff]; intro x hx; simpa using hm x hx

theorem bases_pushL (l : List Int) : ∀ h, (∀ x ∈ h, cls x ≠ 0) → bases (pushL h l).1 = bases l := by
  induction l with
  | nil => intro h _; rfl
  | cons x l ih =>
    intro h hh
    rw [pushL_cons]
    by_cases hx : cls x = 0
    · simp only [hx, if_true]
      have h0 := ih [] (by simp)
      have hb := bases_marks h hh
      unfold bases at *
      simp [List.filter_append, hx, hb, h0]
    · simp only [hx, if_false]
      rw [ih _ ?_]
      · unfold bases; simp [hx]
      · intro y hy; simp at hy; rcases hy with hy | rfl
        · exact hh y hy
        · exact hx

theorem bases_behind (l : List Int) : bases (behind l) = bases l := bases_pushL l [] (by simp)
theorem bases_ahead (l : List Int) : bases (ahead l) = bases l := by
  have h := bases_behind l.reverse
  unfold ahead bases at *
  rw [List.filter_reverse, h, List.filter_reverse, List.reverse_reverse]

/-! ### sorting: what a sorted text is; that it is only one -/

/-- does b stand wrongly right behind a? -/
def Bad (a b : Int) : Prop := cls b ≠ 0 ∧ cls b < cls a
instance (a b : Int) : Decidable (Bad a b) := by unfold Bad; infer_instance

/-- no mark stands right behind one of a greater class -/
def SortedT : List Int → Prop
  | a :: b :: l => ¬ Bad a b ∧ SortedT (b :: l)
  | _ => True

/-- the bases of a text, and its marks of one class -/
def proj (c : Int) (l : List Int) : List Int := l.filter (fun x => cls x = 0 ∨ cls x = c)

theorem proj_append (c : Int) (a b : List Int) : proj c (a ++ b) = proj c a ++ proj c b := by simp [proj]
theorem proj_cons (c x : Int) (l : List Int) : proj c (x :: l) = if cls x = 0 ∨ cls x = c then x :: proj c l else proj c l := by
  unfold proj; rw [List.filter_cons]; simp

theorem SortedT.tail {x : Int} {l : List Int} (h : SortedT (x :: l)) : SortedT l := by
  cases l with
  | nil => trivial
  | cons y l => exact h.2

/-- behind a mark of a class, all that is less comes behind a base -/
theorem proj_less (a : Int) : ∀ (l : List Int) (y : Int), SortedT (y :: l) → cls y ≠ 0 → a < cls y →
    proj a (y :: l) = [] ∨ ∃ b q, proj a (y :: l) = b :: q ∧ cls b = 0 := by
  intro l
  induction l with
  | nil => intro y _ h0 hy; left; simp [proj, h0]; omega
  | cons z l ih =>
    intro y hs h0 hy
    rw [proj_cons, if_neg (by omega)]
    by_cases hz : cls z = 0
    · right; exact ⟨z, proj a l, by rw [proj_cons, if_pos (.inl hz)], hz⟩
    · have hb := hs.1
      unfold Bad at hb
      exact ih z hs.2 hz (by omega)

theorem proj_head_pos {a x : Int} {l : List Int} (h : cls x = 0 ∨ cls x = a) : proj a (x :: l) = x :: proj a l := by rw [proj_cons, if_pos h]

theorem sorted_unique : ∀ (l r : List Int), SortedT l → SortedT r → (∀ c, c ≠ 0 → proj c l = proj c r) → l = r := by
  intro l
  induction l with
  | nil =>
    intro r _ _ h
    cases r with
    | nil => rfl
    | cons y r =>
      exfalso
      by_cases hy : cls y = 0
      · have := h 1 (by omega); rw [proj_head_pos (.inl hy)] at this; simp [proj] at this
      · have := h (cls y) hy; rw [proj_head_pos (.inr rfl)] at this; simp [proj] at this
  | cons x l ih =>
    intro r hl hr h
    cases r with
    | nil =>
      exfalso
      by_cases hx : cls x = 0
      · have := h 1 (by omega); rw [proj_head_pos (.inl hx)] at this; simp [proj] at this
      · have := h (cls x) hx; rw [proj_head_pos (.inr rfl)] at this; simp [proj] at this
    | cons y r =>
      have hxy : x = y := by
        by_cases hx : cls x = 0
        · by_cases hy : cls y = 0
          · have := h 1 (by omega); rw [proj_head_pos (.inl hx), proj_head_pos (.inl hy)] at this; simp at this; exact this.1
          · have := h (cls y) hy; rw [proj_head_pos (.inl hx), proj_head_pos (.inr rfl)] at this; simp at this; exact this.1
        · by_cases hy : cls y = 0
          · have := h (cls x) hx; rw [proj_head_pos (.inr rfl), proj_head_pos (.inl hy)] at this; simp at this; exact this.1
          · rcases Int.lt_trichotomy (cls x) (cls y) with hlt | heq | hgt
            · exfalso
              have e := h (cls x) hx
              rw [proj_head_pos (.inr rfl)] at e
              rcases proj_less (cls x) r y hr hy hlt with h0 | ⟨b, q, hb, hb0⟩
              · rw [h0] at e; simp at e
              · rw [hb] at e; simp at e; rw [e.1] at hx; exact hx hb0
            · have := h (cls x) hx
              rw [proj_head_pos (.inr rfl), proj_head_pos (.inr heq.symm)] at this; simp at this; exact this.1
            · exfalso
              have e := h (cls y) hy
              rw [proj_head_pos (x := y) (.inr rfl)] at e
              rcases proj_less (cls y) l x hl hx hgt with h0 | ⟨b, q, hb, hb0⟩
              · rw [h0] at e; simp at e
              · rw [hb] at e; simp at e; rw [← e.1] at hy; exact hy hb0
      subst hxy
      congr 1
      refine ih r hl.tail hr.tail ?_
      intro c hc
      have e := h c hc
      rw [proj_cons, proj_cons] at e
      split at e
      · simpa using e
      · exact e

/-- r is l, sorted -/
structure IsSort (l r : List Int) : Prop where
  sorted : SortedT r
  proj : ∀ c, c ≠ 0 → proj c r = proj c l

theorem IsSort.eq {l r r' : List Int} (h : IsSort l r) (h' : IsSort l r') : r = r' :=
  sorted_unique _ _ h.sorted h'.sorted fun c hc => (h.proj c hc).trans (h'.proj c hc).symm

theorem IsSort.self {l : List Int} (h : SortedT l) : IsSort l l := ⟨h, fun _ _ => rfl⟩

theorem IsSort.of_same {l l' r : List Int} (h : IsSort l r) (e : ∀ c, c ≠ 0 → Pl14.proj c l' = Pl14.proj c l) : IsSort l' r :=
  ⟨h.sorted, fun c hc => (h.proj c hc).trans (e c hc).symm⟩

theorem ofC_of_proj (c : Int) (l : List Int) : ofC c l = if c = 0 then bases (proj 1 l) else (proj c l).filter (fun x => cls x = c) := by
  unfold ofC bases proj
  split
  · subst_vars
    rw [List.filter_filter]
    congr 1; funext x; by_cases h : cls x = 0 <;> simp [h]
  · rw [List.filter_filter]
    congr 1; funext x; by_cases h : cls x = c <;> simp [h]

theorem IsSort.ofC {l r : List Int} (h : IsSort l r) (c : Int) : ofC c r = ofC c l := by
  rw [ofC_of_proj, ofC_of_proj]
  split
  · rw [h.proj 1 (by omega)]
  · rw [h.proj c (by assumption)]

theorem IsSort.bases {l r : List Int} (h : IsSort l r) : bases r = bases l := h.ofC 0

/-! ### the sorted text exists -/

def insF (x : Int) : List Int → List Int
  | [] => [x]
  | y :: l => if Bad x y then y :: insF x l else x :: y :: l

def msort : List Int → List Int
  | [] => []
  | x :: l => insF x (msort l)

theorem insF_head (x : Int) (l : List Int) : ∃ y q, insF x l = y :: q ∧ (y = x ∨ ∃ q', l = y :: q') := by
  cases l with
  | nil => exact ⟨x, [], rfl, .inl rfl⟩
  | cons y l =>
    unfold insF
    split
    · exact ⟨y, _, rfl, .inr ⟨l, rfl⟩⟩
    · exact ⟨x, _, rfl, .inl rfl⟩

theorem insF_sorted (x : Int) : ∀ l, SortedT l → SortedT (insF x l) := by
  intro l
  induction l with
  | nil => intro _; trivial
  | cons y l ih =>
    intro h
    unfold insF
    split
    · rename_i hb
      obtain ⟨z, q, hz, hor⟩ := insF_head x l
      have := ih h.tail
      rw [hz] at this ⊢
      refine ⟨?_, this⟩
      rcases hor with rfl | ⟨q', rfl⟩
      · unfold Bad at hb ⊢; omega
      · exact h.1
    · rename_i hb
      exact ⟨hb, h⟩

theorem insF_proj (c x : Int) : ∀ l, proj c (insF x l) = proj c (x :: l) := by
  intro l
  induction l with
  | nil => rfl
  | cons y l ih =>
    unfold insF
    split
    · rename_i hb
      rw [proj_cons, ih, proj_cons, proj_cons c x, proj_cons c y]
      have := cls_nonneg y
      unfold Bad at hb
      by_cases h1 : cls x = 0 ∨ cls x = c
      · by_cases h2 : cls y = 0 ∨ cls y = c
        · exfalso; omega
        · simp [h1, h2]
      · simp [h1]
    · rfl

theorem msort_isSort (l : List Int) : IsSort l (msort l) := by
  induction l with
  | nil => exact ⟨trivial, fun _ _ => rfl⟩
  | cons x l ih =>
    refine ⟨insF_sorted _ _ ih.sorted, fun c hc => ?_⟩
    show proj c (insF x (msort l)) = _
    rw [insF_proj, proj_cons, proj_cons, ih.proj c hc]

theorem IsSort.eq_msort {l r : List Int} (h : IsSort l r) : r = msort l := h.eq (msort_isSort l)
theorem msort_sorted {l : List Int} (h : SortedT l) : msort l = l := (IsSort.self h).eq_msort.symm
theorem msort_msort (l : List Int) : msort (msort l) = msort l := msort_sorted (msort_isSort l).sorted
theorem msort_congr {l r : List Int} (h : ∀ c, c ≠ 0 → proj c l = proj c r) : msort l = msort r :=
  ((msort_isSort r).of_same h).eq_msort.symm
theorem msort_parts (a b : List Int) : msort (msort a ++ msort b) = msort (a ++ b) :=
  msort_congr fun c hc => by rw [proj_append, proj_append, (msort_isSort a).proj c hc, (msort_isSort b).proj c hc]

theorem insF_length (x : Int) : ∀ l, (insF x l).length = l.length + 1 := by
  intro l
  induction l with
  | nil => rfl
  | cons y l ih => unfold insF; split <;> simp [ih]
theorem msort_length (l : List Int) : (msort l).length = l.length := by
  induction l with
  | nil => rfl
  | cons x l ih => show (insF x (msort l)).length = _; rw [insF_length, ih]; rfl

/-! ### joining sorted parts -/

theorem SortedT.append {a b : List Int} (ha : SortedT a) (hb : SortedT b)
    (h : ∀ p x y q, a = p ++ [x] → b = y :: q → ¬ Bad x y) : SortedT (a ++ b) := by
  induction a with
  | nil => simpa using hb
  | cons x a ih =>
    cases a with
    | nil =>
      cases b with
      | nil => simpa using ha
      | cons y b => exact ⟨h [] x y b rfl rfl, hb⟩
    | cons z a =>
      exact ⟨ha.1, ih ha.2 fun p x' y q e e' => h (x :: p) x' y q (by simp [e]) e'⟩

/-- a row of marks that stands by rising classes -/
def Rising (l : List Int) : Prop := l.Pairwise fun a b => cls a ≤ cls b

theorem Rising.sorted {l : List Int} (h : Rising l) : SortedT l := by
  induction l with
  | nil => trivial
  | cons x l ih =>
    cases l with
    | nil => trivial
    | cons y l =>
      unfold Rising at h
      rw [List.pairwise_cons] at h
      exact ⟨by have := h.1 y (by simp); unfold Bad; omega, ih h.2⟩

theorem proj_of_ofC {l r : List Int} (hl : ∀ x ∈ l, cls x ≠ 0) (hr : ∀ x ∈ r, cls x ≠ 0) (c : Int) (h : ofC c l = ofC c r) : proj c l = proj c r := by
  have e : ∀ m : List Int, (∀ x ∈ m, cls x ≠ 0) → proj c m = ofC c m := by
    intro m hm
    unfold proj ofC
    apply List.filter_congr
    intro x hx
    simp [hm x hx]
  rw [e l hl, e r hr, h]

theorem mem_of_ofC {l r : List Int} (h : ∀ c, ofC c l = ofC c r) (x : Int) : x ∈ l ↔ x ∈ r := by
  have := h (cls x)
  have a : x ∈ l ↔ x ∈ ofC (cls x) l := by simp [ofC]
  have b : x ∈ r ↔ x ∈ ofC (cls x) r := by simp [ofC]
  rw [a, b, this]

/-- the sorting of one row of marks more: done ends with a base or is empty -/
theorem sort_step {l done seg seg' : List Int} (hd : SortedT done) (hp : ∀ c, c ≠ 0 → proj c done = proj c l)
    (he : done = [] ∨ ∃ q b, done = q ++ [b] ∧ cls b = 0) (hm : ∀ x ∈ seg, cls x ≠ 0) (hr : Rising seg') (hs : ∀ c, ofC c seg' = ofC c seg) :
    IsSort (l ++ seg) (done ++ seg') := by
  have hm' : ∀ x ∈ seg', cls x ≠ 0 := fun x hx => hm x ((mem_of_ofC hs x).1 hx)
  refine ⟨hd.append hr.sorted ?_, fun c hc => ?_⟩
  · intro p x y q e e'
    rcases he with rfl | ⟨q', b, rfl, hb⟩
    · simp at e
    · have := List.append_inj_right' e rfl
      simp at this
      subst this
      have := cls_nonneg y
      unfold Bad; omega
  · rw [proj_append, proj_append, hp c hc, proj_of_ofC hm' hm c (hs c)]

theorem sort_step_base {l done : List Int} (b : Int) (h : IsSort l done) (hb : cls b = 0) : IsSort (l ++ [b]) (done ++ [b]) := by
  refine ⟨h.sorted.append trivial ?_, fun c hc => ?_⟩
  · intro p x y q e e'
    simp at e'
    rw [← e'.1]; unfold Bad; omega
  · rw [proj_append, proj_append, h.proj c hc]

theorem ofC_snoc (c : Int) (l : List Int) (x : Int) : ofC c (l ++ [x]) = if cls x = c then ofC c l ++ [x] else ofC c l := by
  unfold ofC; rw [List.filter_append]; split <;> simp_all

/-! ### rows of characters, as functions of the place -/

def listF (d : Nat → Int) (a b : Nat) : List Int := (List.range' a (b - a)).map d

theorem listF_split (d : Nat → Int) (a m b : Nat) (h1 : a ≤ m) (h2 : m ≤ b) : listF d a b = listF d a m ++ listF d m b := by
  unfold listF
  rw [← List.map_append]
  congr 1
  have := List.range'_append_1 (s := a) (m := m - a) (n := b - m)
  rw [show a + (m - a) = m from by omega, show m - a + (b - m) = b - a from by omega] at this
  exact this.symm

theorem listF_congr {d d' : Nat → Int} {a b : Nat} (h : ∀ p, a ≤ p → p < b → d p = d' p) : listF d a b = listF d' a b := by
  unfold listF
  apply List.map_congr_left
  intro p hp
  rw [List.mem_range'_1] at hp
  exact h p hp.1 (by omega)

theorem listF_one (d : Nat → Int) (a : Nat) : listF d a (a + 1) = [d a] := by
  unfold listF; rw [show a + 1 - a = 1 from by omega]; rfl

theorem listF_length (d : Nat → Int) (a b : Nat) : (listF d a b).length = b - a := by simp [listF]

theorem mem_listF {d : Nat → Int} {a b : Nat} {x : Int} : x ∈ listF d a b ↔ ∃ p, a ≤ p ∧ p < b ∧ d p = x := by
  unfold listF
  simp only [List.mem_map, List.mem_range'_1]
  constructor
  · rintro ⟨p, ⟨h1, h2⟩, h3⟩; exact ⟨p, h1, by omega, h3⟩
  · rintro ⟨p, h1, h2, h3⟩; exact ⟨p, ⟨h1, by omega⟩, h3⟩

/-- d' is d, its places from a to b arranged anew: those of one class stay in their order -/
structure Arr (a b : Nat) (d d' : Nat → Int) : Prop where
  out : ∀ p, p < a ∨ b ≤ p → d' p = d p
  stab : ∀ c, ofC c (listF d' a b) = ofC c (listF d a b)

theorem Arr.refl (a b : Nat) (d : Nat → Int) : Arr a b d d := ⟨fun _ _ => rfl, fun _ => rfl⟩
theorem Arr.trans {a b : Nat} {d d' d'' : Nat → Int} (h : Arr a b d d') (k : Arr a b d' d'') : Arr a b d d'' :=
  ⟨fun p hp => (k.out p hp).trans (h.out p hp), fun c => (k.stab c).trans (h.stab c)⟩

theorem ofC_append (c : Int) (l m : List Int) : ofC c (l ++ m) = ofC c l ++ ofC c m := by simp [ofC]

theorem Arr.widen {a b a' b' : Nat} {d d' : Nat → Int} (h : Arr a b d d') (h1 : a' ≤ a) (h2 : a ≤ b) (h3 : b ≤ b') : Arr a' b' d d' := by
  refine ⟨fun p hp => h.out p (by omega), fun c => ?_⟩
  rw [listF_split d' a' a b' h1 (by omega), listF_split d' a b b' h2 h3, listF_split d a' a b' h1 (by omega), listF_split d a b b' h2 h3]
  simp only [ofC_append, h.stab c]
  rw [listF_congr (d := d') (d' := d) (a := a') (b := a) (fun p _ hp => h.out p (by omega)), listF_congr (d := d') (d' := d) (a := b) (b := b') (fun p hp _ => h.out p (by omega))]

theorem Arr.congr {a b : Nat} {d d' d'' : Nat → Int} (h : Arr a b d d') (e : ∀ p, d' p = d'' p) : Arr a b d d'' := by
  have : d' = d'' := funext e
  exact this ▸ h

/-- two neighbours of two classes change places -/
theorem Arr.swap (d : Nat → Int) (j : Nat) (h : cls (d j) ≠ cls (d (j + 1))) :
    Arr j (j + 2) d (fun p => if p = j + 1 then d j else if p = j then d (j + 1) else d p) := by
  refine ⟨fun p hp => ?_, fun c => ?_⟩
  · rw [if_neg (by omega), if_neg (by omega)]
  · rw [listF_split _ j (j + 1) (j + 2) (by omega) (by omega), listF_split d j (j + 1) (j + 2) (by omega) (by omega), listF_one, listF_one, listF_one, listF_one]
    rw [if_neg (by omega), if_pos rfl, if_pos rfl]
    unfold ofC
    simp only [List.filter_append, List.filter_cons, List.filter_nil]
    by_cases h1 : cls (d j) = c
    · by_cases h2 : cls (d (j + 1)) = c
      · exact absurd (h1.trans h2.symm) h
      · simp [h1, h2]
    · simp [h1]

/-- a part of a row stands by rising classes -/
def RiseF (d : Nat → Int) (a b : Nat) : Prop := ∀ p q, a ≤ p → p ≤ q → q < b → cls (d p) ≤ cls (d q)

theorem RiseF.rising {d : Nat → Int} {a b : Nat} (h : RiseF d a b) : Rising (listF d a b) := by
  unfold Rising listF
  rw [List.pairwise_map]
  refine List.Pairwise.imp_of_mem ?_ List.pairwise_lt_range'
  intro p q hp hq hpq
  rw [List.mem_range'_1] at hp hq
  exact h p q hp.1 (by omega) (by omega)

/-! ### the merge -/

/-- the rows [a, m) and [m, b) change places -/
def rotF (d : Nat → Int) (a m b : Nat) : Nat → Int := fun p => if a ≤ p ∧ p < a + (b - m) then d (m + (p - a)) else if a + (b - m) ≤ p ∧ p < b then d (p - (b - m)) else d p

theorem listF_shift (d d' : Nat → Int) (a b n : Nat) (h : ∀ i, i < n → d' (a + i) = d (b + i)) : listF d' a (a + n) = listF d b (b + n) := by
  unfold listF
  rw [show a + n - a = n from by omega, show b + n - b = n from by omega]
  rw [List.range'_eq_map_range, List.range'_eq_map_range, List.map_map, List.map_map]
  apply List.map_congr_left
  intro i hi
  exact h i (by simpa using hi)

theorem ofC_nil_of {c : Int} {l : List Int} (h : ∀ x ∈ l, cls x ≠ c) : ofC c l = [] := by
  unfold ofC; rw [List.filter_eq_nil_iff]; intro x hx; simpa using h x hx

theorem Arr.rot (d : Nat → Int) (a m b : Nat) (h1 : a ≤ m) (h2 : m ≤ b) (h : ∀ p q, a ≤ p → p < m → m ≤ q → q < b → cls (d q) < cls (d p)) : Arr a b d (rotF d a m b) := by
  refine ⟨fun p hp => ?_, fun c => ?_⟩
  · unfold rotF; rw [if_neg (by omega), if_neg (by omega)]
  · rw [listF_split _ a (a + (b - m)) b (by omega) (by omega), listF_split d a m b h1 h2]
    have e1 : listF (rotF d a m b) a (a + (b - m)) = listF d m b := by
      have := listF_shift d (rotF d a m b) a m (b - m) (fun i hi => by unfold rotF; rw [if_pos (by omega)]; congr 1; omega)
      rw [show m + (b - m) = b from by omega] at this
      exact this
    have e2 : listF (rotF d a m b) (a + (b - m)) b = listF d a m := by
      have := listF_shift d (rotF d a m b) (a + (b - m)) a (m - a) (fun i hi => by unfold rotF; rw [if_neg (by omega), if_pos (by omega)]; congr 1; omega)
      rw [show a + (b - m) + (m - a) = b from by omega, show a + (m - a) = m from by omega] at this
      exact this
    rw [e1, e2, ofC_append, ofC_append]
    by_cases hc : ∃ p, a ≤ p ∧ p < m ∧ cls (d p) = c
    · obtain ⟨p, hp1, hp2, hp3⟩ := hc
      have : ofC c (listF d m b) = [] := ofC_nil_of fun x hx => by
        obtain ⟨q, hq1, hq2, rfl⟩ := mem_listF.1 hx
        have := h p q hp1 hp2 hq1 hq2; omega
      rw [this]; simp
    · have : ofC c (listF d a m) = [] := ofC_nil_of fun x hx => by
        obtain ⟨q, hq1, hq2, rfl⟩ := mem_listF.1 hx
        intro e; exact hc ⟨q, hq1, hq2, e⟩
      rw [this]; simp

theorem RiseF.part {d : Nat → Int} {a b a' b' : Nat} (h : RiseF d a b) (h1 : a ≤ a') (h2 : b' ≤ b) : RiseF d a' b' :=
  fun p q hp hpq hq => h p q (by omega) hpq (by omega)

theorem RiseF.congr {d d' : Nat → Int} {a b : Nat} (h : RiseF d a b) (e : ∀ p, a ≤ p → p < b → d' p = d p) : RiseF d' a b :=
  fun p q hp hpq hq => by rw [e p hp (by omega), e q (by omega) hq]; exact h p q hp hpq hq

theorem RiseF.join {d : Nat → Int} {a m b : Nat} (h1 : RiseF d a m) (h2 : RiseF d m b) (h : ∀ p q, a ≤ p → p < m → m ≤ q → q < b → cls (d p) ≤ cls (d q)) : RiseF d a b := by
  intro p q hp hpq hq
  by_cases q1 : q < m
  · exact h1 p q hp hpq q1
  · by_cases p1 : p < m
    · exact h p q hp p1 (by omega) hq
    · exact h2 p q (by omega) hpq hq

theorem RiseF.empty (d : Nat → Int) {a b : Nat} (h : b ≤ a + 1) : RiseF d a b := fun p q hp hpq hq => by
  obtain rfl : p = q := by omega
  exact Int.le_refl _

/-- one character goes up to its place -/
theorem merge_up {d : Nat → Int} {a i b : Nat} (hr : RiseF d (a + 1) b) (h1 : a + 1 ≤ i) (h2 : i ≤ b) (hlo : ∀ q, a + 1 ≤ q → q < i → cls (d q) < cls (d a)) (hhi : ∀ q, i ≤ q → q < b → cls (d a) ≤ cls (d q)) :
    Arr a b d (rotF d a (a + 1) i) ∧ RiseF (rotF d a (a + 1) i) a b := by
  refine ⟨(Arr.rot d a (a + 1) i (by omega) h1 (fun p q p1 p2 q1 q2 => by obtain rfl : p = a := (by omega); exact hlo q q1 q2)).widen (Nat.le_refl _) (by omega) h2, ?_⟩
  intro p q hp hpq hq
  have ev : ∀ p, a ≤ p → rotF d a (a + 1) i p = if p + 1 < i then d (p + 1) else if p < i then d a else d p := by
    intro p hp
    unfold rotF
    by_cases c1 : p + 1 < i
    · rw [if_pos (by omega), if_pos c1]; congr 1; omega
    · rw [if_neg (by omega), if_neg c1]
      by_cases c2 : p < i
      · rw [if_pos (by omega), if_pos c2]; congr 1; omega
      · rw [if_neg (by omega), if_neg c2]
  rw [ev p hp, ev q (by omega)]
  by_cases c1 : q + 1 < i
  · rw [if_pos c1, if_pos (by omega)]; exact hr _ _ (by omega) (by omega) (by omega)
  · rw [if_neg c1]
    by_cases c2 : q < i
    · rw [if_pos c2]
      by_cases c3 : p + 1 < i
      · rw [if_pos c3]; have := hlo (p + 1) (by omega) c3; omega
      · rw [if_neg c3, if_pos (by omega)]; exact Int.le_refl _
    · rw [if_neg c2]
      by_cases c3 : p + 1 < i
      · rw [if_pos c3]; exact hr _ _ (by omega) (by omega) hq
      · rw [if_neg c3]
        by_cases c4 : p < i
        · rw [if_pos c4]; exact hhi q (by omega) hq
        · rw [if_neg c4]; exact hr p q (by omega) hpq hq

/-- one character goes down to its place -/
theorem merge_down {d : Nat → Int} {a i m : Nat} (hr : RiseF d a m) (h1 : a ≤ i) (h2 : i ≤ m) (hlo : ∀ q, a ≤ q → q < i → cls (d q) ≤ cls (d m)) (hhi : ∀ q, i ≤ q → q < m → cls (d m) < cls (d q)) :
    Arr a (m + 1) d (rotF d i m (m + 1)) ∧ RiseF (rotF d i m (m + 1)) a (m + 1) := by
  refine ⟨(Arr.rot d i m (m + 1) h2 (by omega) (fun p q p1 p2 q1 q2 => by obtain rfl : q = m := (by omega); exact hhi p p1 p2)).widen h1 (by omega) (Nat.le_refl _), ?_⟩
  intro p q hp hpq hq
  have ev : ∀ p, p < m + 1 → rotF d i m (m + 1) p = if p < i then d p else if p = i then d m else d (p - 1) := by
    intro p hp
    unfold rotF
    by_cases c1 : p < i
    · rw [if_neg (by omega), if_neg (by omega), if_pos c1]
    · rw [if_neg c1]
      by_cases c2 : p = i
      · rw [if_pos (by omega), if_pos c2]; congr 1; omega
      · rw [if_neg (by omega), if_pos (by omega), if_neg c2]; congr 1; omega
  rw [ev p (by omega), ev q hq]
  by_cases c1 : q < i
  · rw [if_pos c1, if_pos (by omega)]; exact hr p q hp hpq (by omega)
  · rw [if_neg c1]
    by_cases c2 : q = i
    · rw [if_pos c2]
      by_cases c3 : p < i
      · rw [if_pos c3]; exact hlo p hp c3
      · rw [if_neg c3, if_pos (by omega)]; exact Int.le_refl _
    · rw [if_neg c2]
      by_cases c3 : p < i
      · rw [if_pos c3]; exact hr _ _ hp (by omega) (by omega)
      · rw [if_neg c3]
        by_cases c4 : p = i
        · rw [if_pos c4]; have := hhi (q - 1) (by omega) (by omega); omega
        · rw [if_neg c4]; exact hr _ _ (by omega) (by omega) (by omega)

/-- what the search of the merge finds -/
structure MidAt (d : Nat → Int) (a m b half start fin : Nat) : Prop where
  h1 : a ≤ start
  h2 : start ≤ m
  h3 : start ≤ half
  h4 : fin = half + m - start
  h5 : fin ≤ b
  h6 : a ≤ half
  lt : ∀ p q, start ≤ p → p < m → m ≤ q → q < fin → cls (d q) < cls (d p)
  le : ∀ p q, a ≤ p → p < start → fin ≤ q → q < b → cls (d p) ≤ cls (d q)

theorem MidAt.turn {d : Nat → Int} {a m b half start fin : Nat} (h : MidAt d a m b half start fin) (r1 : RiseF d a m) (r2 : RiseF d m b) (ham : a ≤ m) (hmb : m ≤ b) :
    Arr a b d (rotF d start m fin) ∧ RiseF (rotF d start m fin) a start ∧ RiseF (rotF d start m fin) start half ∧ RiseF (rotF d start m fin) half fin ∧ RiseF (rotF d start m fin) fin b ∧
    ∀ p q, a ≤ p → p < half → half ≤ q → q < b → cls (rotF d start m fin p) ≤ cls (rotF d start m fin q) := by
  obtain ⟨h1, h2, h3, h4, h5, h6, hlt, hle⟩ := h
  have e0 : ∀ p, p < start → rotF d start m fin p = d p := fun p hp => by unfold rotF; rw [if_neg (by omega), if_neg (by omega)]
  have e1 : ∀ p, start ≤ p → p < half → rotF d start m fin p = d (m + (p - start)) := fun p hp hq => by unfold rotF; rw [if_pos (by omega)]
  have e2 : ∀ p, half ≤ p → p < fin → rotF d start m fin p = d (p - (fin - m)) := fun p hp hq => by unfold rotF; rw [if_neg (by omega), if_pos (by omega)]
  have e3 : ∀ p, fin ≤ p → rotF d start m fin p = d p := fun p hp => by unfold rotF; rw [if_neg (by omega), if_neg (by omega)]
  refine ⟨(Arr.rot d start m fin h2 (by omega) hlt).widen h1 (by omega) h5, ?_, ?_, ?_, ?_, ?_⟩
  · intro p q hp hpq hq; rw [e0 p (by omega), e0 q hq]; exact r1 p q hp hpq (by omega)
  · intro p q hp hpq hq; rw [e1 p hp (by omega), e1 q (by omega) hq]; exact r2 _ _ (by omega) (by omega) (by omega)
  · intro p q hp hpq hq; rw [e2 p hp (by omega), e2 q (by omega) hq]; exact r1 _ _ (by omega) (by omega) (by omega)
  · intro p q hp hpq hq; rw [e3 p hp, e3 q (by omega)]; exact r2 p q (by omega) hpq hq
  · intro p q hp hp2 hq hq2
    by_cases c1 : p < start
    · rw [e0 p c1]
      by_cases c2 : q < fin
      · rw [e2 q hq c2]; exact r1 _ _ hp (by omega) (by omega)
      · rw [e3 q (by omega)]; exact hle p q hp c1 (by omega) hq2
    · rw [e1 p (by omega) hp2]
      by_cases c2 : q < fin
      · rw [e2 q hq c2]; have := hlt (q - (fin - m)) (m + (p - start)) (by omega) (by omega) (by omega) (by omega); omega
      · rw [e3 q (by omega)]; exact r2 _ _ (by omega) (by omega) hq2

theorem Arr.mem {a b : Nat} {d d' : Nat → Int} (h : Arr a b d d') : ∀ p, a ≤ p → p < b → ∃ q, a ≤ q ∧ q < b ∧ d q = d' p := by
  intro p h1 h2
  have : d' p ∈ listF d' a b := mem_listF.2 ⟨p, h1, h2, rfl⟩
  rw [mem_of_ofC h.stab] at this
  exact mem_listF.1 this

/-- both halves sorted, one behind the other -/
theorem merge_halves {a half b : Nat} {d D D1 D2 : Nat → Int} (h0 : Arr a b d D) (h1 : Arr a half D D1) (h2 : Arr half b D1 D2) (r1 : RiseF D1 a half) (r2 : RiseF D2 half b) (ha : a ≤ half) (hb : half ≤ b)
    (h : ∀ p q, a ≤ p → p < half → half ≤ q → q < b → cls (D p) ≤ cls (D q)) : Arr a b d D2 ∧ RiseF D2 a b := by
  refine ⟨(h0.trans (h1.widen (Nat.le_refl _) ha hb)).trans (h2.widen ha hb (Nat.le_refl _)), ?_⟩
  refine (r1.congr (fun p _ hp => h2.out p (by omega))).join r2 ?_
  intro p q hp hp2 hq hq2
  rw [h2.out p (by omega)]
  obtain ⟨p', hp1, hp2', e1⟩ := h1.mem p hp hp2
  obtain ⟨q', hq1, hq2', e2⟩ := h2.mem q hq hq2
  rw [← e1, ← e2, h1.out q' (by omega)]
  exact h p' q' hp1 hp2' hq1 hq2'

/-- from the search's loop to what it has found -/
theorem MidAt.found {d : Nat → Int} {a m b half lo start : Nat} (r1 : RiseF d a m) (r2 : RiseF d m b) (ham : a < m) (hmb : m < b) (hhalf : half = (a + b) / 2)
    (hlo : (half < m ∧ lo = half + m - b) ∨ (m ≤ half ∧ lo = a)) (h1 : lo ≤ start) (h2 : start ≤ m) (h3 : start ≤ half)
    (hl : ∀ c, lo ≤ c → c < start → cls (d c) ≤ cls (d (half + m - 1 - c))) (hr : ∀ c, start ≤ c → c < m → c < half → cls (d (half + m - 1 - c)) < cls (d c)) :
    MidAt d a m b half start (half + m - start) := by
  refine ⟨by omega, h2, h3, rfl, by omega, by omega, ?_, ?_⟩
  · intro p q hp hpm hq hqf
    by_cases hs : start < half
    · have h4 := hr start (Nat.le_refl _) (by omega) hs
      have h5 : cls (d q) ≤ cls (d (half + m - 1 - start)) := r2 q _ hq (by omega) (by omega)
      have h6 : cls (d start) ≤ cls (d p) := r1 start p (by omega) hp hpm
      omega
    · omega
  · intro p q hp hps hq hqb
    by_cases hs : lo < start
    · have h4 := hl (start - 1) (by omega) (by omega)
      have h5 : cls (d (half + m - 1 - (start - 1))) ≤ cls (d q) := r2 _ q (by omega) (by omega) hqb
      have h6 : cls (d p) ≤ cls (d (start - 1)) := r1 p _ hp (by omega) (by omega)
      omega
    · omega

theorem rotF_one (d : Nat → Int) (a p : Nat) : rotF d a (a + 1) (a + 1) p = d p := by
  unfold rotF
  rw [if_neg (by omega)]
  split
  · congr 1; omega
  · rfl
theorem rotF_up (d : Nat → Int) (a k p : Nat) (h : a ≤ k) :
    (if p = k then rotF d a (a + 1) (k + 1) (k + 1) else if p = k + 1 then rotF d a (a + 1) (k + 1) k else rotF d a (a + 1) (k + 1) p) = rotF d a (a + 1) (k + 1 + 1) p := by
  unfold rotF
  (repeat' split) <;> first | rfl | (exfalso; omega) | (congr 1; omega)
theorem rotF_down (d : Nat → Int) (m k p : Nat) (h : k + 1 ≤ m) :
    (if p = k + 1 then rotF d (k + 1) m (m + 1) k else if p = k then rotF d (k + 1) m (m + 1) (k + 1) else rotF d (k + 1) m (m + 1) p) = rotF d k m (m + 1) p := by
  unfold rotF
  (repeat' split) <;> first | rfl | (exfalso; omega) | (congr 1; omega)
theorem rotF_none (d : Nat → Int) (m p : Nat) : rotF d m m (m + 1) p = d p := by
  unfold rotF
  split
  · congr 1; omega
  · split
    · exfalso; omega
    · rfl
theorem rotF_left (d : Nat → Int) (m b p : Nat) : rotF d m m b p = d p := by
  unfold rotF
  split
  · congr 1; omega
  · split
    · exfalso; omega
    · rfl
theorem rotF_right (d : Nat → Int) (a m p : Nat) : rotF d a m m p = d p := by
  unfold rotF
  split
  · exfalso; omega
  · split
    · congr 1; omega
    · rfl

/-! ### sorting by blocks -/

/-- the first k blocks of bs places are sorted, each for itself -/
def DoneB (bs k : Nat) (d : Nat → Int) : Prop := ∀ j, j < k → RiseF d (j * bs) (j * bs + bs)
/-- so are the blocks from the k-th on, as far as there are n places -/
def TodoB (bs k n : Nat) (d : Nat → Int) : Prop := ∀ j, k ≤ j → RiseF d (j * bs) (min (j * bs + bs) n)

theorem blk_le {j k bs : Nat} (h : j < k) : j * bs + bs ≤ k * bs := by
  have := Nat.mul_le_mul_right bs (show j + 1 ≤ k from h)
  rw [Nat.add_mul] at this; omega

theorem DoneB.step {bs k : Nat} {d d' : Nat → Int} (h : DoneB bs k d) (ha : Arr (k * bs) (k * bs + bs) d d') (hr : RiseF d' (k * bs) (k * bs + bs)) : DoneB bs (k + 1) d' := by
  intro j hj
  by_cases e : j = k
  · subst e; exact hr
  · have hjk : j < k := by omega
    have := blk_le (bs := bs) hjk
    exact (h j hjk).congr (fun p _ hp => ha.out p (.inl (by omega)))

/-- the first blocks are sorted, and so is what is left: that is less than a block -/
theorem DoneB.last {bs k n : Nat} {d d' : Nat → Int} (h : DoneB bs k d) (ha : Arr (k * bs) n d d') (hr : RiseF d' (k * bs) n) (hkn : k * bs ≤ n) (hn : n < k * bs + bs) : TodoB bs 0 n d' := by
  intro j _
  rcases Nat.lt_trichotomy j k with hjk | hjk | hjk
  · have := blk_le (bs := bs) hjk
    have h1 := (h j hjk).congr (d' := d') (fun p _ hp => ha.out p (.inl (by omega)))
    exact h1.part (Nat.le_refl _) (by omega)
  · subst hjk; exact hr.part (Nat.le_refl _) (by omega)
  · have := blk_le (bs := bs) hjk
    intro p q hp hpq hq
    omega

theorem TodoB.rest {bs k n : Nat} {d d' : Nat → Int} (h : TodoB bs k n d) (k' : Nat) (hk : k ≤ k') (he : ∀ p, k' * bs ≤ p → d' p = d p) : TodoB bs k' n d' := by
  intro j hj
  have hle : k' * bs ≤ j * bs := Nat.mul_le_mul_right bs hj
  exact (h j (by omega)).congr (fun p hp _ => he p (by omega))

/-! ### the document's own answers, place by place -/

theorem held_at (xs : List Int) (k i : Nat) (hk : k ≤ i) (hi : i ≤ xs.length) (hm : ∀ j, k ≤ j → j < i → cls (xs.getD j 0) ≠ 0) (he : k = 0 ∨ cls (xs.getD (k - 1) 0) = 0) :
    pushL [] (xs.take i) = (behind (xs.take k), (xs.take i).drop k) := by
  have e : xs.take i = xs.take k ++ (xs.take i).drop k := by
    have := List.take_append_drop k (xs.take i)
    rw [List.take_take, Nat.min_eq_left hk] at this
    exact this.symm
  have h := held_run (xs.take k) ((xs.take i).drop k) ?_ ?_
  · rw [← e] at h; exact h
  · by_cases h0 : k = 0
    · left; subst h0; rfl
    · right
      refine ⟨xs.take (k - 1), xs.getD (k - 1) 0, ?_, by rcases he with he | he; exact absurd he h0; exact he⟩
      have h1 : k - 1 < xs.length := by omega
      have := List.take_succ_eq_append_getElem h1
      rw [show k - 1 + 1 = k from by omega] at this
      rw [this]; simp [h1]
  · intro x hx
    obtain ⟨j, hj, rfl⟩ := List.getElem_of_mem hx
    simp at hj
    have h1 : k + j < xs.length := by omega
    have := hm (k + j) (by omega) (by omega)
    simpa [h1] using this

theorem behind_take_mark (xs : List Int) (i : Nat) (h : i < xs.length) (hx : cls (xs.getD i 0) ≠ 0) : behind (xs.take (i + 1)) = behind (xs.take i) := by
  rw [List.take_succ_eq_append_getElem h]
  unfold behind
  have : cls xs[i] ≠ 0 := by simpa [h] using hx
  rw [pushL_mark _ _ _ this]

theorem behind_take_base (xs : List Int) (k i : Nat) (h : i < xs.length) (hx : cls (xs.getD i 0) = 0) (hk : k ≤ i) (hm : ∀ j, k ≤ j → j < i → cls (xs.getD j 0) ≠ 0) (he : k = 0 ∨ cls (xs.getD (k - 1) 0) = 0) :
    behind (xs.take (i + 1)) = behind (xs.take i) ++ [xs.getD i 0] ++ (xs.take i).drop k := by
  have hh := held_at xs k i hk (by omega) hm he
  rw [List.take_succ_eq_append_getElem h]
  have hx' : cls xs[i] = 0 := by simpa [h] using hx
  unfold behind at *
  rw [pushL_base _ _ _ hx', hh]
  simp [h]

theorem heldL_at (xs : List Int) (n : Nat) (hn : n ≤ xs.length) (hm : ∀ j, xs.length - n ≤ j → j < xs.length → cls (xs.getD j 0) ≠ 0) (he : n = xs.length ∨ cls (xs.getD (xs.length - n - 1) 0) = 0) :
    (heldL xs).length = n := by
  have := held_at xs (xs.length - n) xs.length (by omega) (Nat.le_refl _) hm (by rcases he with he | he; left; omega; right; exact he)
  rw [List.take_length] at this
  unfold heldL
  rw [this]
  simp; omega

/-- ahead, by the rows of marks: e is where the row ends in which one is -/
theorem ahead_take_base (xs : List Int) (i k : Nat) (h : i < xs.length) (hx : cls (xs.getD i 0) = 0) (hk1 : i + 1 ≤ k) (hk2 : k ≤ xs.length) (hm : ∀ j, i + 1 ≤ j → j < k → cls (xs.getD j 0) ≠ 0) :
    ahead (xs.take k) = ahead (xs.take i) ++ (xs.take k).drop (i + 1) ++ [xs.getD i 0] := by
  have e : xs.take k = xs.take i ++ xs.getD i 0 :: (xs.take k).drop (i + 1) := by
    have h1 := List.take_append_drop i (xs.take k)
    rw [List.take_take, Nat.min_eq_left (by omega)] at h1
    have h2 : i < (xs.take k).length := by simp; omega
    rw [List.drop_eq_getElem_cons h2] at h1
    rw [← h1]
    congr 2
    · simp [h]
    · rw [h1]
  conv => lhs; rw [e]
  rw [ahead_snoc _ _ _ ?_ hx]
  intro x hx
  obtain ⟨j, hj, rfl⟩ := List.getElem_of_mem hx
  simp at hj
  have h1 : i + 1 + j < xs.length := by omega
  have := hm (i + 1 + j) (by omega) (by omega)
  simpa [h1] using this

theorem ahead_take_marks (xs : List Int) (n : Nat) (hn : n ≤ xs.length) (hm : ∀ j, j < n → cls (xs.getD j 0) ≠ 0) : ahead (xs.take n) = [] := by
  apply ahead_marks
  intro x hx
  obtain ⟨j, hj, rfl⟩ := List.getElem_of_mem hx
  simp at hj
  have h1 : j < xs.length := by omega
  have := hm j (by omega)
  simpa [h1] using this

theorem heldL_reverse_at (xs : List Int) (n : Nat) (hn : n ≤ xs.length) (hm : ∀ j, j < n → cls (xs.getD j 0) ≠ 0) (he : n = xs.length ∨ cls (xs.getD n 0) = 0) : (heldL xs.reverse).length = n := by
  have hn1 : n ≤ xs.reverse.length := by simpa using hn
  have ge : ∀ j, j < xs.length → xs.reverse.getD j 0 = xs.getD (xs.length - 1 - j) 0 := by
    intro j hj
    have : xs.length - 1 - j < xs.length := by omega
    simp [List.getElem?_reverse, hj, this]
  refine heldL_at xs.reverse n hn1 ?_ ?_
  · intro j h1 h2
    simp at h1 h2
    rw [ge j h2]
    exact hm _ (by omega)
  · rcases he with he | he
    · left; simp [he]
    · by_cases h0 : n = xs.length
      · left; simp [h0]
      · right
        simp
        rw [← List.getD_eq_getElem?_getD, ge _ (by omega)]
        rw [show xs.length - 1 - (xs.length - n - 1) = n from by omega]; exact he

/-! ### the sorting, row of marks by row of marks -/

structure SrtAt (d D : Nat → Int) (i f : Nat) : Prop where
  hf : f ≤ i
  same : ∀ p, f ≤ p → D p = d p
  marks : ∀ p, f ≤ p → p < i → cls (d p) ≠ 0
  sort : IsSort (listF d 0 f) (listF D 0 f)
  base : f = 0 ∨ cls (D (f - 1)) = 0

theorem SrtAt.start (d : Nat → Int) : SrtAt d d 0 0 := ⟨Nat.le_refl _, fun _ _ => rfl, fun p _ _ => by omega, ⟨trivial, fun _ _ => rfl⟩, .inl rfl⟩

theorem SrtAt.mark {d D : Nat → Int} {i f : Nat} (h : SrtAt d D i f) (hx : cls (d i) ≠ 0) : SrtAt d D (i + 1) f :=
  ⟨by have := h.hf; omega, h.same, fun p h1 h2 => by
    by_cases e : p = i
    · subst e; exact hx
    · exact h.marks p h1 (by omega), h.sort, h.base⟩

/-- the row of marks is sorted: all ahead of i is -/
theorem SrtAt.seg {d D D' E : Nat → Int} {i f : Nat} (h : SrtAt d D i f) (ho : ∀ p, p < f ∨ i ≤ p → D' p = D p) (he : ∀ j, j < i - f → D' (f + j) = E j)
    (ha : Arr 0 (i - f) (fun j => D (f + j)) E) (hr : RiseF E 0 (i - f)) : IsSort (listF d 0 i) (listF D' 0 i) := by
  have hf := h.hf
  rw [listF_split d 0 f i (Nat.zero_le _) hf, listF_split D' 0 f i (Nat.zero_le _) hf, listF_congr (d := D') (d' := D) (fun p _ hp => ho p (.inl hp))]
  have e1 : listF D' f i = listF E 0 (i - f) := by
    have := listF_shift E D' f 0 (i - f) (fun j hj => by rw [he j hj]; congr 1; omega)
    rw [show f + (i - f) = i from by omega, Nat.zero_add] at this
    exact this
  have e2 : listF (fun j => D (f + j)) 0 (i - f) = listF d f i := by
    have := listF_shift d (fun j => D (f + j)) 0 f (i - f) (fun j hj => by show D (f + (0 + j)) = _; rw [h.same _ (by omega)]; congr 1; omega)
    rw [show f + (i - f) = i from by omega, Nat.zero_add] at this
    exact this
  rw [e1]
  refine sort_step h.sort.sorted h.sort.proj ?_ ?_ hr.rising ?_
  · by_cases h0 : f = 0
    · left; subst h0; rfl
    · right
      refine ⟨listF D 0 (f - 1), D (f - 1), ?_, by rcases h.base with hb | hb; exact absurd hb h0; exact hb⟩
      have := listF_split D 0 (f - 1) f (Nat.zero_le _) (by omega)
      rw [this]
      have h2 := listF_one D (f - 1)
      rw [show f - 1 + 1 = f from by omega] at h2
      rw [h2]
  · intro x hx
    obtain ⟨p, h1, h2, rfl⟩ := mem_listF.1 hx
    exact h.marks p h1 h2
  · intro c
    rw [ha.stab c, e2]

theorem SrtAt.next {d D D' E : Nat → Int} {i f : Nat} (h : SrtAt d D i f) (ho : ∀ p, p < f ∨ i ≤ p → D' p = D p) (he : ∀ j, j < i - f → D' (f + j) = E j)
    (ha : Arr 0 (i - f) (fun j => D (f + j)) E) (hr : RiseF E 0 (i - f)) (hb : cls (d i) = 0) : SrtAt d D' (i + 1) (i + 1) := by
  have hf := h.hf
  have hi : D' i = d i := by rw [ho i (.inr (Nat.le_refl _)), h.same i hf]
  refine ⟨Nat.le_refl _, fun p hp => by rw [ho p (.inr (by omega)), h.same p (by omega)], fun p h1 h2 => by omega, ?_, .inr (by simp; rw [hi]; exact hb)⟩
  rw [listF_split d 0 i (i + 1) (Nat.zero_le _) (by omega), listF_split D' 0 i (i + 1) (Nat.zero_le _) (by omega), listF_one, listF_one, hi]
  exact sort_step_base _ (h.seg ho he ha hr) hb

theorem listF_getD (xs : List Int) : listF (fun j => xs.getD j 0) 0 xs.length = xs := by
  unfold listF
  apply List.ext_getElem
  · simp
  · intro j h1 h2
    simp at h1
    simp [h1]

/-! ### sequences -/

def seqPush (acc : List (List Int)) (x : Int) : List (List Int) :=
  if acc = [] ∨ cls x = 0 then acc ++ [[x]] else acc.set (acc.length - 1) (acc.getD (acc.length - 1) [] ++ [x])
def seqs (l : List Int) : List (List Int) := l.foldl seqPush []

theorem seqs_snoc (l : List Int) (x : Int) : seqs (l ++ [x]) = seqPush (seqs l) x := by unfold seqs; rw [List.foldl_append]; rfl
theorem seqPush_ne (acc : List (List Int)) (x : Int) : seqPush acc x ≠ [] := by
  unfold seqPush
  split
  · simp
  · rename_i h
    intro e
    have := congrArg List.length e
    simp at this
    exact h (.inl this)
theorem seqPush_length (acc : List (List Int)) (x : Int) : (seqPush acc x).length ≤ acc.length + 1 := by
  unfold seqPush; split <;> simp
theorem seqs_take_ne (l : List Int) (i : Nat) (h : i < l.length) : seqs (l.take (i + 1)) ≠ [] := by
  rw [List.take_succ_eq_append_getElem h, seqs_snoc]; exact seqPush_ne _ _
theorem seqs_take_length (l : List Int) (i : Nat) : (seqs (l.take i)).length ≤ i := by
  induction i with
  | zero => simp [seqs]
  | succ i ih =>
    by_cases h : i < l.length
    · rw [List.take_succ_eq_append_getElem h, seqs_snoc]
      have := seqPush_length (seqs (l.take i)) l[i]; omega
    · rw [List.take_of_length_le (by omega)]
      rw [List.take_of_length_le (by omega)] at ih; omega

/-- sequences, one behind the other, are the text -/
theorem flatten_seqPush (acc : List (List Int)) (x : Int) : (seqPush acc x).flatten = acc.flatten ++ [x] := by
  unfold seqPush
  split
  · simp
  · rename_i h
    have hne : acc ≠ [] := fun e => h (.inl e)
    have hl : 0 < acc.length := List.length_pos_iff.2 hne
    obtain ⟨ini, q, rfl⟩ : ∃ ini q, acc = ini ++ [q] := ⟨acc.dropLast, acc.getLast hne, (List.dropLast_concat_getLast hne).symm⟩
    simp
theorem flatten_seqs (l : List Int) : (seqs l).flatten = l := by
  have key : ∀ n, n ≤ l.length → (seqs (l.take n)).flatten = l.take n := by
    intro n
    induction n with
    | zero => intro _; simp [seqs]
    | succ n ih =>
      intro h
      rw [List.take_succ_eq_append_getElem (by omega), seqs_snoc, flatten_seqPush, ih (by omega)]
  have := key l.length (Nat.le_refl _)
  rw [List.take_length] at this
  exact this

theorem getD_le_flatten (acc : List (List Int)) : ∀ j, (acc.getD j []).length ≤ acc.flatten.length := by
  induction acc with
  | nil => intro j; simp
  | cons a acc ih =>
    intro j
    cases j with
    | zero => simp
    | succ j => have := ih j; simp at this ⊢; omega

theorem seqs_part_length (l : List Int) (j : Nat) : ((seqs l).getD j []).length ≤ l.length := by
  have := getD_le_flatten (seqs l) j
  rw [flatten_seqs] at this; exact this

def cutAt (xs : List Int) (i : Nat) : Bool := decide (i = 0 ∨ cls (xs.getD i 0) = 0)
def cutsTo (xs : List Int) (k : Nat) : List Nat := (List.range k).filter (cutAt xs)
def cutsI (xs : List Int) (k : Nat) : List Int := (cutsTo xs k).map (fun (i : Nat) => (i : Int))
theorem cutsI_succ (xs : List Int) (k : Nat) : cutsI xs (k + 1) = if cutAt xs k = true then cutsI xs k ++ [(k : Int)] else cutsI xs k := by
  unfold cutsI cutsTo
  rw [List.range_succ, List.filter_append]
  by_cases h : cutAt xs k = true <;> simp [h]
theorem cutsI_length (xs : List Int) (k : Nat) : (cutsI xs k).length ≤ k := by
  unfold cutsI cutsTo
  have := List.length_filter_le (cutAt xs) (List.range k)
  simp at this ⊢; exact this

/-! ### the document's sorting: neighbour by neighbour -/

def LEb (D : Nat → Int) (p q : Nat) : Prop := (∃ t, p < t ∧ t ≤ q ∧ cls (D t) = 0) ∨ cls (D p) ≤ cls (D q)
def FinB (n m : Nat) (D : Nat → Int) : Prop := ∀ p q, p < q → q < n → n ≤ q + m → LEb D p q
structure PassB (n m i : Nat) (D : Nat → Int) : Prop where
  fin : FinB n m D
  top : ∀ p, p + 1 < i → LEb D p (i - 1)
  last : ∀ q, q + 1 + m = n → q + 1 ≤ i → ∀ p, p < q → LEb D p q

def swN (D : Nat → Int) (i : Nat) : Nat → Int := fun p => if p = i then D (i + 1) else if p = i + 1 then D i else D p

theorem FinB.zero (n : Nat) (D : Nat → Int) : FinB n 0 D := fun p q _ h1 h2 => by omega
theorem PassB.start {n m : Nat} {D : Nat → Int} (h : FinB n m D) : PassB n m 1 D := ⟨h, fun p hp => by omega, fun q _ h2 p hp => by omega⟩
theorem PassB.done {n m : Nat} {D : Nat → Int} (i : Nat) (h : PassB n m i D) (hi : n ≤ i) : FinB n (m + 1) D := by
  intro p q hpq hq hm
  by_cases e : n ≤ q + m
  · exact h.fin p q hpq hq e
  · exact h.last q (by omega) (by omega) p hpq

theorem PassB.keep {n m i : Nat} {D : Nat → Int} (h : PassB n m (i + 1) D) (hb : ¬ Bad (D i) (D (i + 1))) : PassB n m (i + 2) D := by
  have key : ∀ p, p < i + 1 → LEb D p (i + 1) := by
    intro p hp
    by_cases h0 : cls (D (i + 1)) = 0
    · exact .inl ⟨i + 1, hp, Nat.le_refl _, h0⟩
    · have h1 : cls (D i) ≤ cls (D (i + 1)) := by unfold Bad at hb; omega
      by_cases e : p = i
      · subst e; exact .inr h1
      · rcases h.top p (by omega) with ⟨t, t1, t2, t3⟩ | h2
        · exact .inl ⟨t, t1, by omega, t3⟩
        · right; rw [show i + 1 - 1 = i from rfl] at h2; omega
  refine ⟨h.fin, fun p hp => key p (by omega), fun q hq hqi p hp => ?_⟩
  by_cases e : q = i + 1
  · subst e; exact key p hp
  · exact h.last q hq (by omega) p hp

theorem swN_at (D : Nat → Int) (i : Nat) : swN D i i = D (i + 1) := by unfold swN; rw [if_pos rfl]
theorem swN_at1 (D : Nat → Int) (i : Nat) : swN D i (i + 1) = D i := by unfold swN; rw [if_neg (by omega), if_pos rfl]
theorem swN_else (D : Nat → Int) (i p : Nat) (h1 : p ≠ i) (h2 : p ≠ i + 1) : swN D i p = D p := by unfold swN; rw [if_neg h1, if_neg h2]

theorem swN_zero {D : Nat → Int} {i t : Nat} (hb : Bad (D i) (D (i + 1))) (ht : cls (D t) = 0) : cls (swN D i t) = 0 ∧ t ≠ i ∧ t ≠ i + 1 := by
  have h0 := cls_nonneg (D (i + 1))
  unfold Bad at hb
  have e1 : t ≠ i := by intro e; subst e; omega
  have e2 : t ≠ i + 1 := by intro e; subst e; omega
  rw [swN_else D i t e1 e2]
  exact ⟨ht, e1, e2⟩

theorem PassB.swap {n m i : Nat} {D : Nat → Int} (h : PassB n m (i + 1) D) (hi : i + 1 < n) (hb : Bad (D i) (D (i + 1))) : PassB n m (i + 2) (swN D i) := by
  have hb' := hb
  unfold Bad at hb'
  have hlt : i + 1 + m < n := by
    apply Classical.byContradiction
    intro hc
    rcases h.fin i (i + 1) (by omega) hi (by omega) with ⟨t, t1, t2, t3⟩ | h2
    · obtain rfl : t = i + 1 := by omega
      omega
    · omega
  have key : ∀ p, p < i + 1 → LEb (swN D i) p (i + 1) := by
    intro p hp
    by_cases e : p = i
    · subst e; right; rw [swN_at, swN_at1]; omega
    · rcases h.top p (by omega) with ⟨t, t1, t2, t3⟩ | h2
      · obtain ⟨z1, z2, z3⟩ := swN_zero hb t3
        exact .inl ⟨t, t1, by omega, z1⟩
      · right; rw [swN_at1, swN_else D i p e (by omega)]; exact h2
  refine ⟨?_, fun p hp => key p (by omega), fun q hq hqi p hp => ?_⟩
  · intro p q hpq hq hm
    have q1 : q ≠ i := by omega
    have q2 : q ≠ i + 1 := by omega
    by_cases e : p = i
    · subst e
      rcases h.fin (p + 1) q (by omega) hq hm with ⟨t, t1, t2, t3⟩ | h2
      · obtain ⟨z1, z2, z3⟩ := swN_zero hb t3
        exact .inl ⟨t, by omega, t2, z1⟩
      · right; rw [swN_at, swN_else D p q q1 q2]; exact h2
    · by_cases e2 : p = i + 1
      · subst e2
        rcases h.fin i q (by omega) hq hm with ⟨t, t1, t2, t3⟩ | h2
        · obtain ⟨z1, z2, z3⟩ := swN_zero hb t3
          exact .inl ⟨t, by omega, t2, z1⟩
        · right; rw [swN_at1, swN_else D i q q1 q2]; exact h2
      · rcases h.fin p q hpq hq hm with ⟨t, t1, t2, t3⟩ | h2
        · obtain ⟨z1, z2, z3⟩ := swN_zero hb t3
          exact .inl ⟨t, t1, t2, z1⟩
        · right; rw [swN_else D i p e e2, swN_else D i q q1 q2]; exact h2
  · obtain rfl : q = i + 1 := by omega
    exact key p hp

theorem listF_cons (D : Nat → Int) (a b : Nat) (h : a < b) : listF D a b = D a :: listF D (a + 1) b := by
  rw [listF_split D a (a + 1) b (by omega) (by omega), listF_one]; rfl
theorem listF_nil (D : Nat → Int) (a b : Nat) (h : b ≤ a) : listF D a b = [] := by unfold listF; rw [show b - a = 0 from by omega]; rfl

theorem sorted_listF (D : Nat → Int) (n : Nat) : ∀ k a, n - a = k → (∀ i, a ≤ i → i + 1 < n → ¬ Bad (D i) (D (i + 1))) → SortedT (listF D a n) := by
  intro k
  induction k with
  | zero => intro a hk _; rw [listF_nil D a n (by omega)]; trivial
  | succ k ih =>
    intro a hk h
    rw [listF_cons D a n (by omega)]
    have h2 := ih (a + 1) (by omega) (fun i h1 h2 => h i (by omega) h2)
    by_cases hl : a + 1 < n
    · rw [listF_cons D (a + 1) n hl] at h2 ⊢
      exact ⟨h a (Nat.le_refl _) hl, h2⟩
    · rw [listF_nil D (a + 1) n (by omega)]; trivial

theorem FinB.sorted {n : Nat} {D : Nat → Int} (h : FinB n n D) : SortedT (listF D 0 n) := by
  refine sorted_listF D n n 0 (by omega) ?_
  intro i _ hi
  rcases h i (i + 1) (by omega) hi (by omega) with ⟨t, t1, t2, t3⟩ | h2
  · obtain rfl : t = i + 1 := by omega
    unfold Bad; omega
  · unfold Bad; omega

theorem proj_swN (D : Nat → Int) (i n : Nat) (hi : i + 1 < n) (hb : Bad (D i) (D (i + 1))) (c : Int) : proj c (listF (swN D i) 0 n) = proj c (listF D 0 n) := by
  have h0 := cls_nonneg (D (i + 1))
  unfold Bad at hb
  have sp : ∀ E : Nat → Int, listF E 0 n = listF E 0 i ++ (E i :: E (i + 1) :: listF E (i + 2) n) := by
    intro E
    rw [listF_split E 0 i n (by omega) (by omega), listF_cons E i n (by omega), listF_cons E (i + 1) n hi]
  rw [sp, sp, swN_at, swN_at1]
  rw [listF_congr (d := swN D i) (d' := D) (a := 0) (b := i) (fun p _ hp => swN_else D i p (by omega) (by omega))]
  rw [listF_congr (d := swN D i) (d' := D) (a := i + 2) (b := n) (fun p hp _ => swN_else D i p (by omega) (by omega))]
  rw [proj_append, proj_append]
  congr 1
  rw [proj_cons, proj_cons, proj_cons, proj_cons]
  by_cases h1 : cls (D (i + 1)) = 0 ∨ cls (D (i + 1)) = c
  · by_cases h2 : cls (D i) = 0 ∨ cls (D i) = c
    · exfalso; omega
    · simp only [h1, h2, if_true, if_false]
  · by_cases h2 : cls (D i) = 0 ∨ cls (D i) = c
    · simp only [h1, h2, if_true, if_false]
    · simp only [h1, h2, if_false]

end Pl14
