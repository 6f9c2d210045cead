/-
  A table: its value of none, and a map from blocks to arrays, that holds just the blocks in which a number has another value.
-/
import Derived.Test.YtkpkcimghkmkfaaTrA
namespace Go.Proofs.Ytkpkcimghkmkfaa
open Go.RowKit

def datA (d : Nat → Int) : DataW Unit := .agg ((List.range 256).map fun j => .lit (.int .i64 (d j)))
open Classical in
noncomputable def arrR (v : Value) : Option (DataW Unit × List MemPlace) := if h : ∃ d, v = .agg (arrI d) then some (datA h.choose, []) else none

theorem datA_congr {d d' : Nat → Int} (h : ∀ j, j < 256 → d j = d' j) : datA d = datA d' := by
  unfold datA
  congr 1
  refine List.map_congr_left fun j hj => ?_
  rw [h j (List.mem_range.1 hj)]
theorem datA_inj {d d' : Nat → Int} (h : datA d = datA d') : ∀ j, j < 256 → d j = d' j := by
  intro j hj
  unfold datA at h
  simp only [DataW.agg.injEq] at h
  have h1 := congrArg (fun l => l[j]?) h
  simpa [hj] using h1
theorem arrR_mk (d : Nat → Int) : arrR (.agg (arrI d)) = some (datA d, []) := by
  have h : ∃ d', Value.agg (arrI d) = .agg (arrI d') := ⟨d, rfl⟩
  unfold arrR
  rw [dif_pos h]
  have hs : Value.agg (arrI d) = .agg (arrI h.choose) := h.choose_spec
  have e : arrI d = arrI h.choose := by injection hs
  rw [datA_congr (arrI_inj e)]
theorem arrR_inv {v : Value} {z : DataW Unit × List MemPlace} (h : arrR v = some z) : ∃ d, v = .agg (arrI d) ∧ z = (datA d, []) := by
  unfold arrR at h
  split at h
  · rename_i h'
    exact ⟨_, h'.choose_spec, (Option.some.inj h).symm⟩
  · cases h

def bkey (a : Nat) : Lit := .int .i32 a
theorem bkey_wf {a : Nat} (h : a < 4352) : (Lit.int .i32 (a : Int)).wf = true := by
  have h1 : IntKind.i32.min = -2147483648 := rfl
  have h2 : IntKind.i32.max = 2147483647 := rfl
  simp [Lit.wf, h1, h2]
  omega
theorem bkey_inj {a b : Nat} (h : bkey a = bkey b) : a = b := by
  unfold bkey at h
  simp only [Lit.int.injEq] at h
  omega
theorem bkey_key (a : Nat) : WideAt.IsKeyLit (bkey a) := by
  unfold bkey WideAt.IsKeyLit
  trivial

/-- does a block hold another value than z? -/
def apartB (z : Int) (f : Nat → Int) (a : Nat) : Bool := !sameB (fun j => f (a * 256 + j)) (fun _ => z)
theorem apartB_iff {z : Int} {f : Nat → Int} {a : Nat} : apartB z f a = true ↔ ∃ j, j < 256 ∧ f (a * 256 + j) ≠ z := by
  unfold apartB
  rw [Bool.not_eq_true', ← Bool.not_eq_true, sameB_iff]
  simp
theorem apartB_false {z : Int} {f : Nat → Int} {a : Nat} : apartB z f a = false ↔ ∀ j, j < 256 → f (a * 256 + j) = z := by
  unfold apartB
  rw [Bool.not_eq_false', sameB_iff]
def cntB (z : Int) (f : Nat → Int) : Nat := ((List.range 4352).filter (apartB z f)).length

theorem count_turn (p q : Nat → Bool) (a : Nat) (he : ∀ b, b ≠ a → p b = q b) (hp : p a = false) (hq : q a = true) : ∀ n, a < n → ((List.range n).filter q).length = ((List.range n).filter p).length + 1 := by
  intro n
  induction n with
  | zero => intro h; omega
  | succ n ih =>
    intro h
    rw [List.range_succ, List.filter_append, List.filter_append, List.length_append, List.length_append]
    by_cases e : a = n
    · subst e
      have : (List.range a).filter q = (List.range a).filter p := List.filter_congr fun b hb => (he b (by have := List.mem_range.1 hb; omega)).symm
      rw [this]
      simp [hp, hq]
    · rw [ih (by omega)]
      have : [n].filter q = [n].filter p := by simp only [List.filter_cons, List.filter_nil, he n (Ne.symm e)]
      rw [this]; omega

theorem count_same (p q : Nat → Bool) (n : Nat) (he : ∀ b, b < n → p b = q b) : ((List.range n).filter q).length = ((List.range n).filter p).length := by
  rw [List.filter_congr fun b hb => (he b (List.mem_range.1 hb)).symm]

/-- the map D tells f, as far as it is not z -/
structure MapsTo (z : Int) (f : Nat → Int) (D : DataW Unit) : Prop where
  tidy : Maps.Tidy D
  keys : ∀ k : Lit, Maps.has D k = true → ∃ a : Nat, k = bkey a ∧ a < 4352 ∧ apartB z f a = true
  vals : ∀ a : Nat, a < 4352 → apartB z f a = true → Maps.has D (bkey a) = true ∧ ∀ y, D.atKey (bkey a) y = datA fun j => f (a * 256 + j)
  size : Maps.size D = cntB z f

theorem MapsTo.start (z : Int) : MapsTo z (fun _ => z) (.map []) := by
  have h0 : ∀ a, apartB z (fun _ => z) a = false := fun a => apartB_false.2 fun _ _ => rfl
  refine ⟨Maps.tidy_empty, ?_, ?_, ?_⟩
  · intro k h; simp [Maps.has] at h
  · intro a _ h; rw [h0 a] at h; cases h
  unfold cntB
  rw [List.filter_eq_nil_iff.2 (fun a _ => by rw [h0 a]; simp)]
  rfl

theorem MapsTo.congr {z : Int} {f f' : Nat → Int} {D : DataW Unit} (h : MapsTo z f D) (he : ∀ r, r < 1114112 → f' r = f r) : MapsTo z f' D := by
  have hb : ∀ a, a < 4352 → (fun j => f' (a * 256 + j)) = (fun j => f' (a * 256 + j)) := fun _ _ => rfl
  have ha : ∀ a, a < 4352 → apartB z f a = apartB z f' a := by
    intro a h1
    rw [Bool.eq_iff_iff, apartB_iff, apartB_iff]
    constructor <;> (rintro ⟨j, hj, hne⟩; refine ⟨j, hj, ?_⟩)
    · rw [he _ (by omega)]; exact hne
    · rw [← he _ (by omega)]; exact hne
  refine ⟨h.tidy, fun k hk => ?_, fun a h1 h2 => ?_, ?_⟩
  · obtain ⟨a, e, h1, h2⟩ := h.keys k hk
    exact ⟨a, e, h1, by rw [← ha a h1]; exact h2⟩
  · obtain ⟨h3, h4⟩ := h.vals a h1 (by rw [ha a h1]; exact h2)
    refine ⟨h3, fun y => (h4 y).trans (datA_congr fun j hj => (he _ (by omega)).symm)⟩
  · rw [h.size]
    unfold cntB
    exact (count_same _ _ _ ha).symm

theorem MapsTo.absent {z : Int} {f : Nat → Int} {D : DataW Unit} (h : MapsTo z f D) {a : Nat} (ha : a < 4352) (hn : Maps.has D (bkey a) = false) : ∀ j, j < 256 → f (a * 256 + j) = z := by
  refine apartB_false.1 ?_
  cases e : apartB z f a with
  | false => rfl
  | true => rw [(h.vals a ha e).1] at hn; cases hn

theorem MapsTo.present {z : Int} {f : Nat → Int} {D : DataW Unit} (h : MapsTo z f D) {a : Nat} (hp : Maps.has D (bkey a) = true) : a < 4352 ∧ apartB z f a = true ∧ ∀ y, D.atKey (bkey a) y = datA fun j => f (a * 256 + j) := by
  obtain ⟨a', e, h1, h2⟩ := h.keys _ hp
  obtain rfl := bkey_inj e
  exact ⟨h1, h2, (h.vals _ h1 h2).2⟩

theorem apartB_else {z : Int} {f f' : Nat → Int} {a b : Nat} (he : ∀ r, r / 256 ≠ a → f' r = f r) (hb : b ≠ a) : apartB z f b = apartB z f' b := by
  rw [Bool.eq_iff_iff, apartB_iff, apartB_iff]
  constructor <;> (rintro ⟨j, hj, hne⟩; refine ⟨j, hj, ?_⟩)
  · rw [he _ (by omega)]; exact hne
  · rw [← he _ (by omega)]; exact hne

theorem MapsTo.put {z : Int} {f f' : Nat → Int} {D : DataW Unit} (h : MapsTo z f D) {a : Nat} (ha : a < 4352) (he : ∀ r, r / 256 ≠ a → f' r = f r) (hn : apartB z f' a = true) :
    MapsTo z f' (D.put (bkey a) (datA fun j => f' (a * 256 + j))) := by
  refine ⟨h.tidy.put (bkey_key a) _, fun k hk => ?_, fun b hb h2 => ?_, ?_⟩
  · by_cases e : k = bkey a
    · exact ⟨a, e, ha, hn⟩
    · rw [Maps.has_put_other e] at hk
      obtain ⟨b, rfl, h1, h2⟩ := h.keys k hk
      have hba : b ≠ a := fun e' => e (by rw [e'])
      exact ⟨b, rfl, h1, by rw [← apartB_else he hba]; exact h2⟩
  · by_cases e : b = a
    · subst e
      exact ⟨Maps.has_put_same h.tidy.isMap (bkey_key b) _, fun y => Maps.atKey_put_same h.tidy.isMap (bkey_key b) _ _⟩
    · have hne : bkey b ≠ bkey a := fun e' => e (bkey_inj e')
      obtain ⟨h3, h4⟩ := h.vals b hb (by rw [apartB_else he e]; exact h2)
      rw [Maps.has_put_other hne]
      refine ⟨h3, fun y => ?_⟩
      rw [Maps.atKey_put_other hne, h4 y]
      exact datA_congr fun j hj => (he _ (by omega)).symm
  · rw [Maps.size_put h.tidy]
    cases e : Maps.has D (bkey a) with
    | true =>
      obtain ⟨_, h2, _⟩ := h.present e
      rw [if_pos rfl, h.size]
      unfold cntB
      refine (count_same _ _ _ fun b _ => ?_).symm
      by_cases eb : b = a
      · rw [eb, h2, hn]
      · exact apartB_else he eb
    | false =>
      have h2 := apartB_false.2 (h.absent ha e)
      rw [if_neg (by simp), h.size]
      unfold cntB
      exact (count_turn _ _ a (fun b hb => apartB_else he hb) h2 hn _ ha).symm

theorem MapsTo.del {z : Int} {f f' : Nat → Int} {D : DataW Unit} (h : MapsTo z f D) {a : Nat} (ha : a < 4352) (he : ∀ r, r / 256 ≠ a → f' r = f r) (hn : apartB z f' a = false) :
    MapsTo z f' (D.del (bkey a)) := by
  refine ⟨h.tidy.del _, fun k hk => ?_, fun b hb h2 => ?_, ?_⟩
  · by_cases e : k = bkey a
    · rw [e, Maps.has_del_same] at hk; cases hk
    · rw [Maps.has_del_other e] at hk
      obtain ⟨b, rfl, h1, h2⟩ := h.keys k hk
      have hba : b ≠ a := fun e' => e (by rw [e'])
      exact ⟨b, rfl, h1, by rw [← apartB_else he hba]; exact h2⟩
  · by_cases e : b = a
    · subst e; rw [hn] at h2; cases h2
    · have hne : bkey b ≠ bkey a := fun e' => e (bkey_inj e')
      obtain ⟨h3, h4⟩ := h.vals b hb (by rw [apartB_else he e]; exact h2)
      rw [Maps.has_del_other hne]
      refine ⟨h3, fun y => ?_⟩
      rw [Maps.atKey_del_other hne, h4 y]
      exact datA_congr fun j hj => (he _ (by omega)).symm
  · have hs := Maps.size_del (k := bkey a) h.tidy
    rw [h.size] at hs
    cases e : Maps.has D (bkey a) with
    | true =>
      obtain ⟨_, h2, _⟩ := h.present e
      rw [e, if_pos rfl] at hs
      have := count_turn _ _ a (fun b hb => (apartB_else (z := z) he hb).symm) hn h2 _ ha
      unfold cntB at hs ⊢
      omega
    | false =>
      have h2 := apartB_false.2 (h.absent ha e)
      rw [e, if_neg (by simp)] at hs
      unfold cntB at hs ⊢
      have := count_same (apartB z f) (apartB z f') 4352 fun b _ => by
        by_cases eb : b = a
        · rw [eb, h2, hn]
        · exact apartB_else he eb
      omega

end Go.Proofs.Ytkpkcimghkmkfaa
