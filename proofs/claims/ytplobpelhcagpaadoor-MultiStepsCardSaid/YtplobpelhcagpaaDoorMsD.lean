/-
  Multi: policy's New.
-/
import Derived.Test.YtplobpelhcagpaaDoorMsC
import Derived.Test.YtplobpelhcagpaaDoorMsS
namespace Go.Proofs.YtplobpelhcagpaaDoor
open Go.RowKit Go.Shelf Pl14

/-- a slice of strings, read -/
def RdS (w : World) (v : Value) (ss : List ByteArray) : Prop :=
  ∃ a cap, v = .slice a ss.length cap ∧ ss.length ≤ cap ∧ cap ≤ 9223372036854775807 ∧ (a = none → ss = []) ∧
    (ss = [] ∨ ∃ b off, a = some ⟨b, off, none⟩ ∧ ∀ j, j < ss.length → w.cell? ⟨b, off + j, none⟩ = some (.string (ss.getD j ByteArray.empty)))
theorem RdS.mono {w w' : World} {v : Value} {ss : List ByteArray} (h : RdS w v ss) {B : Nat} (hb : Below B w w') (hB : B = w.heap.size) : RdS w' v ss := by
  obtain ⟨a, cap, hv, h1, h2, h0, h3⟩ := h
  refine ⟨a, cap, hv, h1, h2, h0, ?_⟩
  rcases h3 with h3 | ⟨b, off, ha, hc⟩
  · exact .inl h3
  · exact .inr ⟨b, off, ha, fun j hj => (hb.cell (p := ⟨b, off + j, none⟩) (by show b < B; rw [hB]; exact cell_lt (hc j hj))).trans (hc j hj)⟩

theorem containsS_any (v : Value) (ss : List ByteArray) (x : ByteArray) (w : World) (h : RdS w v ss) :
    Calls Tryd.prog 47 #[v, .string x] w fun e w' => e = .returned (.bool (Lib.containsS ss x)) ∧ w' = w := by
  obtain ⟨a, cap, rfl, h1, h2, h0, h3⟩ := h
  rcases h3 with rfl | ⟨b, off, rfl, hc⟩
  · refine (Sh_slices_Contains_string_empty a cap x w).mono ?_
    rintro e w' ⟨rfl, rfl⟩
    exact ⟨by cases h : Lib.containsS [] x with
      | false => rfl
      | true => exact absurd ((Lib.containsS_iff _ _).1 h) (by simp), rfl⟩
  · refine (Sh_slices_Contains_string b off ss.length cap ss x w (Nat.le_refl _) (by omega) hc).mono ?_
    rintro e w' ⟨rfl, rfl⟩
    exact ⟨by rw [List.take_length], rfl⟩
theorem cloneS_any (v : Value) (ss : List ByteArray) (w : World) (h : RdS w v ss) (hb : ss.length ≤ 1000000) :
    Calls Tryd.prog 48 #[v] w fun e w' => ∃ a n c, e = .returned (.slice a n c) ∧ Below w.heap.size w w' := by
  obtain ⟨a, cap, rfl, h1, h2, h0, h3⟩ := h
  rcases h3 with rfl | ⟨b, off, rfl, hc⟩
  · cases a with
    | none =>
      refine (Sh_slices_Clone_string_nil _ cap w).mono ?_
      rintro e w' ⟨rfl, rfl⟩
      exact ⟨_, _, _, rfl, Below.refl _ _⟩
    | some a =>
      refine (Sh_slices_Clone_string_zero a cap w).mono ?_
      rintro e w' ⟨v', rfl, ho, _, hb⟩
      obtain ⟨_, _, rfl, _⟩ := ownsRow_shapeN ho
      exact ⟨_, _, _, rfl, hb⟩
  · refine (Sh_slices_Clone_string b off ss.length cap ss w (Nat.le_refl _) (by omega) hc).mono ?_
    rintro e w' ⟨v', rfl, ho, _, hb⟩
    obtain ⟨_, _, rfl, _⟩ := ownsRow_shapeN ho
    exact ⟨_, _, _, rfl, hb⟩

def PolicyOk (codes : List ByteArray) (keys : List (List Int)) : Prop := CoverOk keys ∧ codes.length = keys.length ∧ Lib.containsS codes ⟨#[]⟩ = false

set_option maxHeartbeats 2000000 in
theorem policyNew_any (T : TypeId) (x : Value) (f : FuncId) (x' : Value) (vc vl : Value) (codes : List ByteArray) (keys : List (List Int)) (w : World) (hc : ClsAt w T x f x') (hS : RdS w vc codes) (hR : RdRows w vl keys) (hk : keys.length ≤ 4096) (hck : codes.length ≤ 4096) (hsz : ∀ k ∈ keys, k.length ≤ 1000000) (hi32 : ∀ k ∈ keys, ∀ x ∈ k, -2147483648 ≤ x ∧ x ≤ 2147483647) :
    Calls Tryd.prog 30 #[.iface T x, vc, vl] w fun e w' => ∃ p er, e = .returned (.tuple #[p, .int .i64 er]) ∧ ((er = 0 ∧ ∃ b, p = .pointer (some ⟨b, 0, none⟩)) ∨ (er ≠ 0 ∧ p = .pointer none ∧ ¬ PolicyOk codes keys)) ∧ Below w.heap.size w w' := by
  obtain ⟨a, cap, rfl, hcap1, hcap2⟩ := hR.shape
  obtain ⟨ca, cc, rfl, hc1, hc2, _⟩ := id hS
  have HN := Lib.hid (coverNew_any T x f x' _ keys w hc hR hk hsz hi32)
  have HS := Lib.hid hS; clear hS hR hc
  go_enter Tryd.func30, Tryd.ntmps30
  go_wp2_with fail
  refine HN.out.mono ?_
  rintro e w1 ⟨p, er, rfl, hor, hb1⟩
  rcases hor with ⟨rfl, b, rfl⟩ | ⟨hne, rfl, hno⟩
  · by_cases hl : codes.length = keys.length
    · have hl2 : ((codes.length : Int) != (keys.length : Int)) = false := by simp [hl]
      have HL := Lib.hid hl; clear hl
      go_wp2_with fail
      refine (containsS_any _ codes _ w1 (HS.out.mono hb1 rfl)).mono ?_
      rintro e w2 ⟨rfl, rfl⟩
      cases hcs : Lib.containsS codes ⟨#[]⟩ with
      | true =>
        have HCS := Lib.hid hcs; clear hcs
        go_wp2
        go_ret2
        exact ⟨_, _, rfl, .inr ⟨by decide, rfl, fun h => by have h1 := h.2.2; rw [HCS.out] at h1; cases h1⟩, hb1⟩
      | false =>
        clear hcs
        go_wp2_with fail
        refine (cloneS_any _ codes w2 (HS.out.mono hb1 rfl) (by omega)).mono ?_
        rintro e w3 ⟨sa, sn, sc, rfl, hb3⟩
        go_wp2
        go_ret2
        exact ⟨_, _, rfl, .inl ⟨rfl, _, rfl⟩, (hb1.trans (hb3.mono hb1.size)).alloc (Nat.le_trans hb1.size hb3.size) _⟩
    · have hl2 : ((codes.length : Int) != (keys.length : Int)) = true := by simp; omega
      have HL := Lib.hid hl; clear hl
      go_wp2
      go_ret2
      exact ⟨_, _, rfl, .inr ⟨by decide, rfl, fun h => HL.out h.2.1⟩, hb1⟩
  · have hne2 : (er != 0) = true := by simpa using hne
    have HNE := Lib.hid hne; clear hne
    go_wp2
    go_ret2
    exact ⟨_, _, rfl, .inr ⟨HNE.out, rfl, fun h => hno h.1⟩, hb1⟩

end Go.Proofs.YtplobpelhcagpaaDoor
