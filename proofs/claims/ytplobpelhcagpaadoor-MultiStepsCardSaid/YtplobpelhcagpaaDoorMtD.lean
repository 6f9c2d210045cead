/-
  Multi: valid texts: their characters' bytes are they.
-/
import Derived.Test.YtplobpelhcagpaaDoorMtB
import Derived.Lib.MapLaws
import Derived.Lib.ValidLaws
namespace Go.Proofs.YtplobpelhcagpaaDoor
open Go.RowKit Go.Shelf Pl14

/-- how many bytes a character has -/
def widN (r : Nat) : Nat := if 65536 ≤ r then 4 else if 2048 ≤ r then 3 else if 128 ≤ r then 2 else 1
theorem enc_rune (r : Nat) (hv : r < 55296 ∨ (57344 ≤ r ∧ r ≤ 1114111)) : (Utf8.encode (r : Int)).data.toList = Lib.encodeRune (r : Int) := by
  have v : Utf8.valid (r : Int) = true := by simp [Utf8.valid]; omega
  have hb : ∀ (a : Nat) (z : Int), z = (a : Int) → z.toNat.toUInt8 = UInt8.ofNat a := by intro a z h; subst h; simp
  unfold Lib.encodeRune
  by_cases c1 : r < 128
  · rw [Lib.encodeRuneZ_one (by omega) (by omega)]
    simp [Utf8.encode, v, c1]
  by_cases c2 : r < 2048
  · rw [Lib.encodeRuneZ_two (by omega) (by omega)]
    simp only [List.map_cons, List.map_nil]
    rw [hb (192 + r / 64) _ (by omega), hb (128 + r % 64) _ (by omega)]
    simp [Utf8.encode, v, c1, c2]
  by_cases c3 : r < 65536
  · rw [Lib.encodeRuneZ_three (by omega)]
    simp only [List.map_cons, List.map_nil]
    rw [hb (224 + r / 4096) _ (by omega), hb (128 + r / 64 % 64) _ (by omega), hb (128 + r % 64) _ (by omega)]
    simp [Utf8.encode, v, c1, c2, c3]
  · rw [Lib.encodeRuneZ_four (by omega) (by omega)]
    simp only [List.map_cons, List.map_nil]
    rw [hb (240 + r / 262144) _ (by omega), hb (128 + r / 4096 % 64) _ (by omega), hb (128 + r / 64 % 64) _ (by omega), hb (128 + r % 64) _ (by omega)]
    simp [Utf8.encode, v, c1, c2, c3]
theorem dec_shape (l : List UInt8) (hne : l ≠ []) (hv : ¬ ((Lib.decodeL l).1 = 65533 ∧ (Lib.decodeL l).2 = 1)) :
    (Lib.decodeL l).2 = widN (Lib.decodeL l).1 ∧ ((Lib.decodeL l).1 < 55296 ∨ (57344 ≤ (Lib.decodeL l).1 ∧ (Lib.decodeL l).1 ≤ 1114111)) := by
  rw [Lib.decodeL_N] at hv ⊢
  rcases Lib.decodeN_shape l.length (l.getD 0 0).toNat (l.getD 1 0).toNat (l.getD 2 0).toNat (l.getD 3 0).toNat with ⟨c, e⟩ | ⟨c1, c2, c3, cv, e⟩ | ⟨c1, c2, c3, c4, cv, cs, e⟩ | ⟨c1, c2, c3, c4, c5, cv, cw, e⟩ | e
  · rw [e]; unfold widN; simp only; refine ⟨?_, by omega⟩; rw [if_neg (by omega), if_neg (by omega), if_neg (by omega)]
  · rw [e]; unfold widN; simp only; refine ⟨?_, by omega⟩; rw [if_neg (by omega), if_neg (by omega), if_pos (by omega)]
  · rw [e]; unfold widN; simp only; refine ⟨?_, by omega⟩; rw [if_neg (by omega), if_pos (by omega)]
  · rw [e]; unfold widN; simp only; refine ⟨?_, by omega⟩; rw [if_pos (by omega)]
  · rw [e] at hv; exact absurd ⟨rfl, rfl⟩ hv
/-- no fault from a place on -/
def ValidAt (s : ByteArray) (i : Nat) : Prop := Lib.validD (s.data.toList.drop i) = true
theorem ValidAt.step {s : ByteArray} {i : Nat} (h : ValidAt s i) (hi : i < s.size) : (Utf8.encode ((Utf8.decode s i).1 : Int)).data.toList = (s.data.toList.drop i).take (Utf8.decode s i).2 ∧
    (Utf8.decode s i).2 = widN (Utf8.decode s i).1 ∧ i + (Utf8.decode s i).2 ≤ s.size ∧ 1 ≤ (Utf8.decode s i).2 ∧ ValidAt s (i + (Utf8.decode s i).2) := by
  have hne : s.data.toList.drop i ≠ [] := by
    intro e
    have h0 : s.data.toList.length - i = 0 := by rw [← List.length_drop, e]; rfl
    rw [← size_toList] at h0
    omega
  unfold ValidAt at h
  rw [Lib.validD_step _ hne] at h
  have hv : ¬ ((Lib.decodeL (s.data.toList.drop i)).1 = 65533 ∧ (Lib.decodeL (s.data.toList.drop i)).2 = 1) := by
    intro hb
    rw [if_pos hb] at h
    cases h
  rw [if_neg hv, List.drop_drop, Lib.decodeL_drop] at h
  have hs := dec_shape _ hne hv
  have he := Lib.encode_decode _ hne hv
  have hle := Lib.decodeL_le _ hne
  have hw := Lib.decodeL_width (s.data.toList.drop i)
  rw [Lib.decodeL_drop] at hs he hle hw
  rw [List.length_drop, ← size_toList] at hle
  exact ⟨(enc_rune _ hs.2).trans he, hs.1, by omega, hw, h⟩
theorem runesBytes_list (ns : List Int) : (runesBytes ns).data.toList = (ns.map (fun n => (Utf8.encode n).data.toList)).flatten := by
  have h : ∀ (ns : List Int) (a : ByteArray), (ns.foldl (fun r n => r ++ Utf8.encode n) a).data.toList = a.data.toList ++ (ns.map (fun n => (Utf8.encode n).data.toList)).flatten := by
    intro ns
    induction ns with
    | nil => intro a; simp
    | cons n ns ih => intro a; rw [List.foldl_cons, ih]; simp
  have := h ns ByteArray.empty
  simpa [runesBytes] using this
theorem runesN_bytes (s : ByteArray) : ∀ (f i : Nat), s.size ≤ i + f → ValidAt s i → ((runesN s f i).map (fun n => (Utf8.encode n).data.toList)).flatten = s.data.toList.drop i
  | 0, i, hf, _ => by
    rw [List.drop_eq_nil_of_le (by rw [← size_toList]; omega)]
    rfl
  | f + 1, i, hf, h => by
    unfold runesN
    by_cases hi : i < s.size
    · obtain ⟨h1, h2, h3, h4, h5⟩ := h.step hi
      rw [if_pos hi, List.map_cons, List.flatten_cons, h1, runesN_bytes s f _ (by omega) h5]
      conv => rhs; rw [← List.take_append_drop (Utf8.decode s i).2 (s.data.toList.drop i)]
      rw [List.drop_drop]
    · rw [if_neg hi, List.drop_eq_nil_of_le (by rw [← size_toList]; omega)]
      rfl
/-- A VALID TEXT'S CHARACTERS ARE TOLD AS ITS BYTES. -/
theorem runes_back (s : ByteArray) (h : Lib.validD s.data.toList = true) : runesBytes (runesL s) = s := by
  apply bytes_eq
  rw [runesBytes_list]
  exact runesN_bytes s s.size 0 (by omega) (by unfold ValidAt; simpa using h)
theorem RowOk.valid {ps : List CT} {c t : ByteArray} {fl : Int} (h : RowOk ps c t fl) : Lib.validD t.data.toList = true := by
  have hc := h.1
  unfold checkE at hc
  by_cases hcond : c.size < 1 ∨ 4 < c.size ∨ (Lib.runeCount t : Int) < 1 ∨ 18 < (Lib.runeCount t : Int) ∨ Lib.validD t.data.toList = false
  · rw [if_pos hcond] at hc; cases hc
  · cases hv : Lib.validD t.data.toList with
    | true => rfl
    | false => exact absurd (.inr (.inr (.inr (.inr hv)))) hcond
theorem RowsFrom.valid : ∀ {rs : List MRow} {ps : List CT}, RowsFrom ps rs → ∀ r ∈ rs, Lib.validD r.2.1.data.toList = true
  | [], _, _, r, h => by simp at h
  | x :: rs, _, hr, r, h => by
    rcases List.mem_cons.1 h with rfl | h
    · exact hr.1.valid
    · exact RowsFrom.valid hr.2 r h

end Go.Proofs.YtplobpelhcagpaaDoor
