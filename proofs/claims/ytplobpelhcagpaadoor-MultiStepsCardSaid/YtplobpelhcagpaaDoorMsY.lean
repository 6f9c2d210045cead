/-
  Arguments of the types []Row and []string, opened: their elements, each read.
-/
import Derived.Test.YtplobpelhcagpaaDoorMsO
import Derived.Deep.Slices
import Derived.Deep.Strs
import Derived.OpenShut
namespace Go.Proofs.YtplobpelhcagpaaDoor
open Go.ChangeShapes Go.WideShapes Go.RowKit

set_option maxRecDepth 100000 in
theorem rdM_opened {H : Type} {enc : TypeId × Value → H} {w : World} {held : Bool} {fuel : Nat} {a0 : Option Addr} {len0 cap0 : Nat} {x : DataW H × List MemPlace}
    (h : DataW.trod enc Tryd.prog w 0 (fun _ => true) held fuel 22 [.slice a0 len0 cap0] = some x) : ∃ rs, RdM w (.slice a0 len0 cap0) rs := by
  have c1 : Tryd.prog.cellsOf 9 = 1 := by kernel_rfl
  have c2 : Tryd.prog.cellsOf 3 = 1 := by kernel_rfl
  have c3 : Tryd.prog.cellsOf 47 = 3 := by kernel_rfl
  rcases Go.Deep.open_slice Tryd.underlying22 h with ⟨hcs, _⟩ | ⟨a, len, cap, m, n, D, Pl, hcs, _, hl, hm, hmm, _, hx⟩
  · simp at hcs
    obtain ⟨rfl, rfl, rfl⟩ := hcs
    exact ⟨[], none, 0, rfl, Nat.le_refl _, by omega, fun _ => rfl, .inl rfl⟩
  · simp at hcs
    obtain ⟨rfl, rfl, rfl⟩ := hcs
    simp only [if_true] at hmm
    subst hmm
    have each : ∀ i, i < len0 → ∃ s : MRow, w.cell? (a.add (i * 3)) = some (.string s.1) ∧ w.cell? (a.add (i * 3 + 1)) = some (.string s.2.1) ∧ w.cell? (a.add (i * 3 + 2)) = some (.int .i64 s.2.2) := by
      intro i hi
      obtain ⟨cs', h1, h2⟩ := hx i (by omega)
      rw [c3] at h1
      obtain ⟨_, hlen, hcell⟩ := World.cells?_some h1
      obtain ⟨y0, y1, y2, k, _, _, hy0, hy1, hy2⟩ := Go.Deep.trod_struct3 Tryd.underlying47 h2
      obtain ⟨fr, e0, _, w0⟩ := DataW.trod_string Tryd.underlying9 hy0
      obtain ⟨up, e1, _, w1⟩ := DataW.trod_string Tryd.underlying9 hy1
      obtain ⟨v, e2, _, _⟩ := DataW.trod_int Tryd.underlying3 hy2
      have g0 := hcell 0 (by omega)
      have g1 := hcell 1 (by omega)
      have g2 := hcell 2 (by omega)
      match cs', hlen with
      | [v0, v1, v2], _ =>
        simp [c1, c2] at e0 e1 e2
        subst e0 e1 e2
        rw [Go.Deep.add_add] at g0 g1 g2
        exact ⟨(fr, up, v), by simpa using g0, by simpa using g1, by simpa using g2⟩
    obtain ⟨q, hq⟩ := Go.Deep.choose_lt each
    have hlen : ((List.range len0).map q).length = len0 := by simp
    refine ⟨(List.range len0).map q, some a, _, by rw [hlen], by rw [hlen]; exact hl, by unfold maxLen at hm; omega, (fun h => by cases h), ?_⟩
    by_cases h0 : len0 = 0
    · left; subst h0; simp
    · right
      obtain ⟨b, o, sp⟩ := a
      have : sp = none := by simpa [Addr.add] using World.cell?_spot (hq 0 (by omega)).1
      subst this
      refine ⟨b, o, rfl, fun k u hk => ?_⟩
      have e : ∀ i, (⟨b, o, none⟩ : Addr).add i = ⟨b, o + i, none⟩ := fun i => by unfold Addr.add; split <;> simp_all
      have hkl : k < 3 * len0 := by
        have := (List.getElem?_eq_some_iff.1 hk).1
        rw [rowsC_len, hlen] at this; exact this
      obtain ⟨j, c, rfl, hc⟩ : ∃ j c, k = 3 * j + c ∧ c < 3 := ⟨k / 3, k % 3, by omega, by omega⟩
      have hj : j < len0 := by omega
      rw [rowsC_at _ _ _ (by rw [hlen]; exact hj) hc] at hk
      have hd : ((List.range len0).map q).getD j mr0 = q j := by simp [hj]
      rw [hd] at hk
      obtain ⟨g0, g1, g2⟩ := hq j hj
      rw [e] at g0 g1 g2
      have hcc : c = 0 ∨ c = 1 ∨ c = 2 := by omega
      rcases hcc with rfl | rfl | rfl
      · simp [rowC] at hk; subst hk; rw [show o + (3 * j + 0) = o + j * 3 by omega]; exact g0
      · simp [rowC] at hk; subst hk; rw [show o + (3 * j + 1) = o + (j * 3 + 1) by omega]; exact g1
      · simp [rowC] at hk; subst hk; rw [show o + (3 * j + 2) = o + (j * 3 + 2) by omega]; exact g2

set_option maxRecDepth 100000 in
theorem rdS_opened {H : Type} {enc : TypeId × Value → H} {w : World} {held : Bool} {fuel : Nat} {a0 : Option Addr} {len0 cap0 : Nat} {x : DataW H × List MemPlace}
    (h : DataW.trod enc Tryd.prog w 0 (fun _ => true) held fuel 23 [.slice a0 len0 cap0] = some x) : ∃ ss, RdS w (.slice a0 len0 cap0) ss ∧ (ss = [] ∨ ∃ es sp, x.1 = .slice es sp ∧ es.length = ss.length) := by
  rcases Go.Deep.open_strs Tryd.underlying23 Tryd.underlying9 (by kernel_rfl) h with ⟨hcs, _⟩ | ⟨a, len, cap, m, Sx, hcs, _, hl, hm, hmm, hxe, hx⟩
  · simp at hcs
    obtain ⟨rfl, rfl, rfl⟩ := hcs
    exact ⟨[], ⟨none, 0, rfl, Nat.le_refl _, by omega, fun _ => rfl, .inl rfl⟩, .inl rfl⟩
  · simp at hcs
    obtain ⟨rfl, rfl, rfl⟩ := hcs
    simp only [if_true] at hmm
    subst hmm
    have hlen : ((List.range len0).map Sx).length = len0 := by simp
    refine ⟨(List.range len0).map Sx, ⟨some a, _, by rw [hlen], by rw [hlen]; exact hl, by unfold maxLen at hm; omega, (fun h => by cases h), ?_⟩, .inr ⟨_, _, by rw [hxe], by simp⟩⟩
    by_cases h0 : len0 = 0
    · left; subst h0; simp
    · right
      obtain ⟨b, o, sp⟩ := a
      have : sp = none := by simpa [Addr.add] using World.cell?_spot (hx 0 (by omega)).1
      subst this
      refine ⟨b, o, rfl, fun j hj => ?_⟩
      rw [hlen] at hj
      have e : ∀ i, (⟨b, o, none⟩ : Addr).add i = ⟨b, o + i, none⟩ := fun i => by unfold Addr.add; split <;> simp_all
      have g := (hx j (by omega)).1
      rw [e] at g
      have hd : ((List.range len0).map Sx).getD j ByteArray.empty = Sx j := by simp [hj]
      rw [hd]; exact g

set_option maxRecDepth 100000 in
theorem rdI_opened {H : Type} {enc : TypeId × Value → H} {w : World} {held : Bool} {fuel : Nat} {a0 : Option Addr} {len0 cap0 : Nat} {x : DataW H × List MemPlace}
    (h : DataW.trod enc Tryd.prog w 0 (fun _ => true) held fuel 45 [.slice a0 len0 cap0] = some x) : ∃ xs, Rd .i64 w (.slice a0 len0 cap0) xs := by
  rcases Go.Deep.open_slice1 Tryd.underlying45 (by kernel_rfl) h with ⟨hcs, _⟩ | ⟨a, len, cap, m, n, V, D, Pl, hcs, _, hl, hm, hmm, _, hx⟩
  · simp at hcs
    obtain ⟨rfl, rfl, rfl⟩ := hcs
    exact ⟨[], none, 0, rfl, Nat.le_refl _, by omega, fun _ => rfl, .inl rfl⟩
  · simp at hcs
    obtain ⟨rfl, rfl, rfl⟩ := hcs
    simp only [if_true] at hmm
    subst hmm
    have each : ∀ i, i < len0 → ∃ y : Int, w.cell? (a.add i) = some (.int .i64 y) := by
      intro i hi
      obtain ⟨h1, h2⟩ := hx i (by omega)
      obtain ⟨y, e0, _, _⟩ := DataW.trod_int Tryd.underlying3 h2
      simp at e0
      exact ⟨y, by rw [h1, e0]⟩
    obtain ⟨q, hq⟩ := Go.Deep.choose_lt each
    have hlen : ((List.range len0).map q).length = len0 := by simp
    refine ⟨(List.range len0).map q, some a, _, by rw [hlen], by rw [hlen]; exact hl, by unfold maxLen at hm; omega, (fun h => by cases h), ?_⟩
    by_cases h0 : len0 = 0
    · left; subst h0; simp
    · right
      obtain ⟨b, o, sp⟩ := a
      have : sp = none := by simpa [Addr.add] using World.cell?_spot (hq 0 (by omega))
      subst this
      refine ⟨b, o, rfl, fun j hj => ?_⟩
      rw [hlen] at hj
      have e : ∀ i, (⟨b, o, none⟩ : Addr).add i = ⟨b, o + i, none⟩ := fun i => by unfold Addr.add; split <;> simp_all
      have g := hq j hj
      rw [e] at g
      have hd : ((List.range len0).map q).getD j 0 = q j := by simp [hj]
      rw [hd]; exact g

end Go.Proofs.YtplobpelhcagpaaDoor
