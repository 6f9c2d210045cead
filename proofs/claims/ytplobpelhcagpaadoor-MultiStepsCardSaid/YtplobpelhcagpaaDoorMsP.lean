/-
  Multi: what charset.New holds.
-/
import Derived.Test.YtplobpelhcagpaaDoorMsO
import Derived.Laws.Cover4
namespace Go.Proofs.YtplobpelhcagpaaDoor
open Go.RowKit Go.Shelf Pl14

theorem mem_insF (x y : Int) : ∀ l, y ∈ insF x l → y = x ∨ y ∈ l := by
  intro l
  induction l with
  | nil => intro h; simp [insF] at h; exact .inl h
  | cons z l ih =>
    unfold insF
    split
    · intro h
      rcases List.mem_cons.1 h with rfl | h
      · exact .inr (by simp)
      · rcases ih h with h | h
        · exact .inl h
        · exact .inr (by simp [h])
    · intro h
      rcases List.mem_cons.1 h with h | h
      · exact .inl h
      · exact .inr h
theorem mem_msort {y : Int} : ∀ {l : List Int}, y ∈ msort l → y ∈ l
  | [], h => h
  | x :: l, h => by
    rcases mem_insF x y (msort l) h with rfl | h
    · simp
    · simp [mem_msort h]
theorem nfdL_rng (t : ByteArray) : ∀ x ∈ nfdL (runesL t), -2147483648 ≤ x ∧ x ≤ 2147483647 := by
  intro x hx
  obtain ⟨y, hy, hxy⟩ := List.mem_flatMap.1 (mem_msort hx)
  have := runesN_rng t _ _ y hy
  exact oneL_rng (by omega) x hxy

/-! ### the rows -/
def psFrom (ps : List CT) : List MRow → List CT
  | [] => ps
  | r :: rs => psFrom (rowPs ps r.1 r.2.1 r.2.2) rs
def RowsFrom (ps : List CT) : List MRow → Prop
  | [] => True
  | r :: rs => RowOk ps r.1 r.2.1 r.2.2 ∧ RowsFrom (rowPs ps r.1 r.2.1 r.2.2) rs
/-- may rows be? -/
def RowsOk (rs : List MRow) : Prop := RowsFrom [] rs
/-- the rows for decoding -/
def psOf (rs : List MRow) : List CT := psFrom [] rs

/-! ### keys -/
abbrev Keyed := Value × List Int × MRow
def keyC (k : Keyed) : List Value := [k.1, .string k.2.2.1, .string k.2.2.2.1, .int .i64 k.2.2.2.2]
def k0 : Keyed := (.slice none 0 0, [], mr0)
theorem keyC_at (ks : List Keyed) (j c : Nat) (hj : j < ks.length) (hc : c < 4) : (ks.flatMap keyC)[4 * j + c]? = (keyC (ks.getD j k0))[c]? := by
  have e : ks.getD j k0 = ks[j] := by simp [List.getD_eq_getElem?_getD, hj]
  rw [e]
  exact flat_at keyC 4 (fun _ => rfl) ks j c hj hc
theorem keyC_len (ks : List Keyed) : (ks.flatMap keyC).length = ks.length * 4 := by
  induction ks with
  | nil => rfl
  | cons x ks ih =>
    show ([_, _, _, _] ++ ks.flatMap keyC).length = _
    rw [List.length_append, ih]; simp; omega
theorem keyC_set (r : MRow) : ∀ (ks : List Keyed) (j : Nat), j < ks.length → (((ks.flatMap keyC).set (4 * j + 1) (.string r.1)).set (4 * j + 2) (.string r.2.1)).set (4 * j + 3) (.int .i64 r.2.2) = (ks.set j ((ks.getD j k0).1, (ks.getD j k0).2.1, r)).flatMap keyC := by
  intro ks
  induction ks with
  | nil => intro j h; simp at h
  | cons x ks ih =>
    intro j h
    cases j with
    | zero => rfl
    | succ j =>
      have e := ih j (by simpa using h)
      have e1 : 4 * (j + 1) + 1 = (4 * j + 1) + 4 := by omega
      have e2 : 4 * (j + 1) + 2 = (4 * j + 2) + 4 := by omega
      have e3 : 4 * (j + 1) + 3 = (4 * j + 3) + 4 := by omega
      rw [e1, e2, e3]
      have step : ∀ (L : List Value) (m : Nat) (u : Value), (keyC x ++ L).set (m + 4) u = keyC x ++ L.set m u := fun _ _ _ => rfl
      change (((keyC x ++ ks.flatMap keyC).set ((4 * j + 1) + 4) _).set ((4 * j + 2) + 4) _).set ((4 * j + 3) + 4) _ = keyC x ++ (ks.set j ((ks.getD j k0).1, (ks.getD j k0).2.1, r)).flatMap keyC
      rw [step, step, step, e]

/-- a key's bytes -/
def keyB (k : List Int) : Bytes := (runesBytes k).data.toList
theorem conv_key {w : World} {v : Value} {xs : List Int} (h : Rd .i32 w v xs) (hx : xs ≠ []) : (convert 75 9 v).run Tryd.prog w = .ok (.string (runesBytes xs)) w := by
  obtain ⟨a, cap, rfl, h1, h2, h0, h3⟩ := h
  rcases h3 with h3 | ⟨b, off, rfl, hc⟩
  · exact absurd h3 hx
  · have := run_convert_runes (P := Tryd.prog) w 75 9 21 ⟨b, off, none⟩ xs.length cap xs (Nat.le_refl _) Tryd.underlying75 Tryd.underlying21 Tryd.underlying9 (fun j hj => by
      have e : (⟨b, off, none⟩ : Addr).add j = ⟨b, off + j, none⟩ := by unfold Addr.add; split <;> simp_all
      rw [e]; exact hc j hj)
    rw [List.take_length] at this
    exact this
theorem look_int {P : Program} {w : World} {k t e : TypeId} {b n : Nat} {D : DataW Unit} (h : w.ownsMap P k (plainElem P e) b n D) (K : Maps.Keyed P k) (ht : P.underlying t = some (.map k e)) (he : P.underlying e = some (.int .i64))
    (hz : (zeroValue e).run P w = .ok (.int .i64 0) w) {key : Value} {s : Lit} (hkey : keyOf P k key = some s) :
    ∃ x : Int, (Instr.lookup t (.map (some b)) key true).run P w = .ok (.tuple #[.int .i64 x, .bool (Maps.has D s)]) w ∧ D.atKey s (.lit (.int .i64 0)) = .lit (.int .i64 x) := by
  obtain ⟨v, qs, hrun, hv⟩ := h.look_ok K ht hz (plainElem_int he (a := 0) (by decide)) hkey
  obtain ⟨x, rfl, hx, _⟩ := plainElem_int_inv he hv
  simp only [Prod.mk.injEq] at hx
  exact ⟨x, hrun, hx.1⟩

/-- what New holds of the keys -/
structure NI (BB am : Nat) (sv : Value) (ks : List Keyed) (n : Nat) (D : DataW Unit) (wr : World) : Prop where
  row : wr.ownsRow BB 80 4 sv ks.length (ks.flatMap keyC)
  keys : ∀ k ∈ ks, Own 21 .i32 BB wr k.1 k.2.1
  good : ∀ k ∈ ks, wrongE k.2.1 = 0 ∧ (∀ x ∈ k.2.1, -2147483648 ≤ x ∧ x ≤ 2147483647) ∧ k.2.2.1.size ≠ 0
  map : wr.ownsMap Tryd.prog 9 (plainElem Tryd.prog 3) am n D
  nle : n ≤ ks.length
  has : ∀ s : Bytes, Maps.has D (.string s) = true ↔ ∃ k ∈ ks, keyB k.2.1 = s
  at_ : ∀ s : Bytes, Maps.has D (.string s) = true → ∃ j, j < ks.length ∧ D.atKey (.string s) (.lit (.int .i64 0)) = .lit (.int .i64 (j : Nat))
  dist : ks.Pairwise (fun a b => a.2.1 ≠ b.2.1)
  low : am < BB
  big : BB ≤ wr.heap.size

section
variable {BB am n : Nat} {sv : Value} {ks : List Keyed} {D : DataW Unit} {wr w' : World}
theorem NI.keep {S : Nat → Prop} (h : NI BB am sv ks n D wr) (hk : Keep S wr w') (hs : ∀ j, S j → j < BB ∧ j ≠ am) : NI BB am sv ks n D w' where
  row := ownsRow_keepN h.row hk (fun j e hj => by have := (World.ownsRow.lt h.row j e).1; have := hs j hj; omega)
  keys := fun k hk' => (h.keys k hk').keep hk (fun j e hj => by have := ((h.keys k hk').lt j e).1; have := hs j hj; omega)
  good := h.good
  map := by
    obtain ⟨es, cl, he, hr⟩ := h.map
    exact ⟨es, cl, (hk.block am (Array.getElem?_eq_some_iff.1 he).1 (fun hj => (hs am hj).2 rfl)).trans he, hr⟩
  nle := h.nle
  has := h.has
  at_ := h.at_
  dist := h.dist
  low := h.low
  big := Nat.le_trans h.big hk.size
theorem NI.below (h : NI BB am sv ks n D wr) (hb : Below wr.heap.size wr w') : NI BB am sv ks n D w' := h.keep (S := fun _ => False) (Keep.of_below hb rfl) (fun _ h => h.elim)
/-- a row that is taken in the place of another one of its key -/
theorem NI.setBest {g cap : Nat} (h : NI BB am (.slice (some ⟨g, 0, none⟩) ks.length cap) ks n D wr) (r : MRow) (j : Nat) (hj : j < ks.length) (hr : r.1.size ≠ 0) :
    NI BB am (.slice (some ⟨g, 0, none⟩) ks.length cap) (ks.set j ((ks.getD j k0).1, (ks.getD j k0).2.1, r)) n D (((wr.setCell ⟨g, 4 * j + 1, none⟩ (.string r.1)).setCell ⟨g, 4 * j + 2, none⟩ (.string r.2.1)).setCell ⟨g, 4 * j + 3, none⟩ (.int .i64 r.2.2)) := by
  obtain ⟨h1, g1⟩ := World.ownsRow.stored h.row (4 * j + 1) (.string r.1)
  obtain ⟨h2, g2⟩ := World.ownsRow.stored h1 (4 * j + 2) (.string r.2.1)
  obtain ⟨h3, g3⟩ := World.ownsRow.stored h2 (4 * j + 3) (.int .i64 r.2.2)
  have hg := (World.ownsRow.lt h.row g rfl)
  have e : ks.getD j k0 = ks[j] := by simp [List.getD_eq_getElem?_getD, hj]
  have hmem : ∀ k ∈ ks.set j ((ks.getD j k0).1, (ks.getD j k0).2.1, r), ∃ k' ∈ ks, k.1 = k'.1 ∧ k.2.1 = k'.2.1 ∧ (k.2.2.1 = k'.2.2.1 ∨ k.2.2.1 = r.1) := by
    intro k hk
    rcases List.mem_or_eq_of_mem_set hk with h | rfl
    · exact ⟨k, h, rfl, rfl, .inl rfl⟩
    · exact ⟨ks[j], List.getElem_mem hj, by rw [e], by rw [e], .inr rfl⟩
  have hmem2 : ∀ k' ∈ ks, ∃ k ∈ ks.set j ((ks.getD j k0).1, (ks.getD j k0).2.1, r), k.2.1 = k'.2.1 := by
    intro k' hk'
    obtain ⟨i, hi, rfl⟩ := List.mem_iff_getElem.1 hk'
    by_cases hij : j = i
    · subst hij
      exact ⟨_, List.mem_iff_getElem.2 ⟨j, by simpa using hj, List.getElem_set_self _⟩, by rw [e]⟩
    · exact ⟨ks[i], List.mem_iff_getElem.2 ⟨i, by simpa using hi, List.getElem_set_ne hij _⟩, rfl⟩
  have hk : Keep (fun b => b = g) wr (((wr.setCell ⟨g, 4 * j + 1, none⟩ (.string r.1)).setCell ⟨g, 4 * j + 2, none⟩ (.string r.2.1)).setCell ⟨g, 4 * j + 3, none⟩ (.int .i64 r.2.2)) :=
    ((Keep.of_setCell _ _ _ _).trans (Keep.of_setCell _ _ _ _) (fun _ _ h => h)).trans (Keep.of_setCell _ _ _ _) (fun _ _ h => h)
  refine ⟨?_, ?_, ?_, ?_, ?_, ?_, ?_, ?_, h.low, Nat.le_trans h.big hk.size⟩
  · rw [← keyC_set r ks j hj, List.length_set]
    exact h3
  · intro k hk'
    obtain ⟨k', hm, e1, e2, _⟩ := hmem k hk'
    rw [e1, e2]
    refine (h.keys k' hm).keep hk (fun b eb hb => ?_)
    subst hb
    rcases rows_ne (h.keys k' hm) h.row (by decide) with h' | h'
    · rw [h'] at eb; cases eb
    · exact h' (by rw [eb]; rfl)
  · intro k hk'
    obtain ⟨k', hm, e1, e2, e3⟩ := hmem k hk'
    obtain ⟨a1, a2, a3⟩ := h.good k' hm
    rw [e2]
    refine ⟨a1, a2, ?_⟩
    rcases e3 with e3 | e3 <;> rw [e3]
    · exact a3
    · exact hr
  · obtain ⟨es, cl, he, hr'⟩ := h.map
    have hne : am ≠ g := by have := h.low; omega
    exact ⟨es, cl, (hk.block am (Array.getElem?_eq_some_iff.1 he).1 hne).trans he, hr'⟩
  · rw [List.length_set]; exact h.nle
  · intro s
    rw [h.has s]
    constructor
    · rintro ⟨k', hk', hs⟩
      obtain ⟨k, hm, e2⟩ := hmem2 k' hk'
      exact ⟨k, hm, by rw [e2]; exact hs⟩
    · rintro ⟨k, hk', hs⟩
      obtain ⟨k', hm, _, e2, _⟩ := hmem k hk'
      exact ⟨k', hm, by rw [← e2]; exact hs⟩
  · intro s hs
    rw [List.length_set]; exact h.at_ s hs
  · rw [List.pairwise_iff_getElem]
    intro a b ha hb hab
    have hp := List.pairwise_iff_getElem.1 h.dist a b (by simpa using ha) (by simpa using hb) hab
    have hx : ∀ (i : Nat) (hi : i < (ks.set j ((ks.getD j k0).1, (ks.getD j k0).2.1, r)).length), ((ks.set j ((ks.getD j k0).1, (ks.getD j k0).2.1, r))[i]).2.1 = (ks[i]'(by simpa using hi)).2.1 := by
      intro i hi
      by_cases hij : j = i
      · subst hij; rw [List.getElem_set_self]; have e2 : (ks.getD j k0).2.1 = (ks[j]).2.1 := by rw [e]
        exact e2
      · rw [List.getElem_set_ne hij]
    rw [hx a ha, hx b hb]
    exact hp
/-- a new key: its entry in the map -/
theorem NI.putKey (h : NI BB am sv ks n D wr) (kv : Value) (key : List Int) (r : MRow) {g cap : Nat} {w1 w2 : World} (hno : Maps.has D (.string (keyB key)) = false) (hD : Maps.IsMap D)
    (hm : w1.ownsMap Tryd.prog 9 (plainElem Tryd.prog 3) am (n + 1) (D.put (.string (keyB key)) (.lit (.int .i64 (ks.length : Nat))))) (hk1 : Keep (fun j => j = am) wr w1)
    (hrow : w2.ownsRow BB 80 4 (.slice (some ⟨g, 0, none⟩) (ks.length + 1) cap) (ks.length + 1) (ks.flatMap keyC ++ keyC (kv, key, r))) (hk2 : Keep (fun j => sv.ownBlock = some j ∨ w1.heap.size ≤ j) w1 w2)
    (hown : Own 21 .i32 BB wr kv key) (hgood : wrongE key = 0 ∧ (∀ x ∈ key, -2147483648 ≤ x ∧ x ≤ 2147483647) ∧ r.1.size ≠ 0) :
    NI BB am (.slice (some ⟨g, 0, none⟩) (ks.length + 1) cap) (ks ++ [(kv, key, r)]) (n + 1) (D.put (.string (keyB key)) (.lit (.int .i64 (ks.length : Nat)))) w2 := by
  have hkr : ∀ (v : Value) (xs : List Int), Own 21 .i32 BB wr v xs → Own 21 .i32 BB w2 v xs := by
    intro v xs ho
    have h1 := ho.keep hk1 (fun j e hj => by have := (ho.lt j e).1; have := h.low; omega)
    refine h1.keep hk2 (fun j e hj => ?_)
    rcases hj with hj | hj
    · rcases rows_ne ho h.row (by decide) with h' | h'
      · rw [h'] at e; cases e
      · exact h' (by rw [e, hj])
    · have := (h1.lt j e).2; omega
  refine ⟨by simpa using hrow, ?_, ?_, ?_, ?_, ?_, ?_, ?_, h.low, Nat.le_trans h.big (Nat.le_trans hk1.size hk2.size)⟩
  · intro k hk
    rcases List.mem_append.1 hk with hk | hk
    · exact hkr _ _ (h.keys k hk)
    · simp at hk; subst hk; exact hkr _ _ hown
  · intro k hk
    rcases List.mem_append.1 hk with hk | hk
    · exact h.good k hk
    · simp at hk; subst hk; exact hgood
  · obtain ⟨es, cl, he, hr'⟩ := hm
    refine ⟨es, cl, (hk2.block am (Array.getElem?_eq_some_iff.1 he).1 (fun hj => ?_)).trans he, hr'⟩
    rcases hj with hj | hj
    · have := (World.ownsRow.lt h.row am hj).1; have := h.low; omega
    · have := (Array.getElem?_eq_some_iff.1 he).1; omega
  · rw [List.length_append]; have := h.nle; simp; omega
  · intro s
    by_cases e : s = keyB key
    · subst e
      rw [Maps.has_put_same hD (by trivial)]
      simp
    · rw [Maps.has_put_other (fun h => e (by simpa using h)), h.has s]
      constructor
      · rintro ⟨k, hk, hs⟩
        exact ⟨k, by simp [hk], hs⟩
      · rintro ⟨k, hk, hs⟩
        rcases List.mem_append.1 hk with hk | hk
        · exact ⟨k, hk, hs⟩
        · simp at hk; subst hk; exact absurd hs.symm e
  · intro s hs
    by_cases e : s = keyB key
    · subst e
      rw [Maps.atKey_put_same hD (by trivial)]
      exact ⟨ks.length, by simp, rfl⟩
    · rw [Maps.has_put_other (fun h => e (by simpa using h))] at hs
      obtain ⟨j, hj, hat⟩ := h.at_ s hs
      rw [Maps.atKey_put_other (fun h => e (by simpa using h))]
      exact ⟨j, by simp; omega, hat⟩
  · rw [List.pairwise_append]
    refine ⟨h.dist, by simp, ?_⟩
    intro a ha b hb
    simp at hb; subst hb
    intro he
    have : Maps.has D (.string (keyB key)) = true := (h.has _).2 ⟨a, ha, by rw [he]⟩
    rw [hno] at this
    cases this
end

end Go.Proofs.YtplobpelhcagpaaDoor
