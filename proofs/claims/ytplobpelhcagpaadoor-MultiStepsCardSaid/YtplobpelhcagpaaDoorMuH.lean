/-
  Contract of the library's insertion sort over characters.
-/
import Derived.Test.YtplobpelhcagpaaDoorMuG
namespace Go.Proofs.YtplobpelhcagpaaDoor
open Go.RowKit Go.Shelf Pl14

/-- what the comparison needs of the world: the box of its captured variable; no turn of the row hurts it -/
structure CmpInv (bx blk : Nat) (I : World → Prop) : Prop where
  keep : ∀ w w', I w → Keep (fun j => j = blk) w w' → I w'
  cmp : ∀ w, I w → ∀ r s : Int, Calls Tryd.prog 70 #[.int .i32 r, .int .i32 s, .pointer (some ⟨bx, 0, none⟩)] w fun e w' => e = .returned (.int .i64 (cls r - cls s)) ∧ Below w.heap.size w w'

/-- the comparison as a value -/
def cmpV (bx : Nat) : Value := .func (.func 70) #[] #[.pointer (some ⟨bx, 0, none⟩)]

/-- how far the inner loop has brought the character at j down -/
structure InsAt (a i j : Nat) (d D : Nat → Int) : Prop where
  arr : Arr a (i + 1) d D
  rise : ∀ p q, a ≤ p → p ≤ q → q ≤ i → q ≠ j → cls (D p) ≤ cls (D q)

theorem InsAt.start {a i : Nat} {d D : Nat → Int} (h : Arr a i d D) (hr : RiseF D a i) (hai : a ≤ i) : InsAt a i i d D :=
  ⟨h.widen (Nat.le_refl _) hai (by omega), fun p q h1 h2 h3 h4 => hr p q h1 h2 (by omega)⟩

theorem InsAt.step {a i j : Nat} {d D : Nat → Int} (h : InsAt a i (j + 1) d D) (ha : a ≤ j) (hj : j + 1 ≤ i) (hlt : cls (D (j + 1)) < cls (D j)) :
    InsAt a i j d (swapF D (j + 1) j) := by
  have e : swapF D (j + 1) j = fun p => if p = j + 1 then D j else if p = j then D (j + 1) else D p := rfl
  refine ⟨?_, ?_⟩
  · refine h.arr.trans ?_
    rw [e]
    exact (Arr.swap D j (by omega)).widen ha (by omega) (by omega)
  · intro p q h1 h2 h3 h4
    rw [e]
    show cls (if p = j + 1 then D j else if p = j then D (j + 1) else D p) ≤ cls (if q = j + 1 then D j else if q = j then D (j + 1) else D q)
    have hh := h.rise
    by_cases q1 : q = j + 1
    · subst q1
      rw [if_pos rfl]
      by_cases p1 : p = j + 1
      · rw [if_pos p1]; exact Int.le_refl _
      · rw [if_neg p1]
        by_cases p2 : p = j
        · rw [if_pos p2]; omega
        · rw [if_neg p2]; exact hh p j h1 (by omega) (by omega) (by omega)
    · rw [if_neg q1, if_neg h4]
      by_cases p1 : p = j + 1
      · rw [if_pos p1]; exact hh j q ha (by omega) h3 q1
      · rw [if_neg p1]
        by_cases p2 : p = j
        · rw [if_pos p2]; exact hh (j + 1) q (by omega) (by omega) h3 q1
        · rw [if_neg p2]; exact hh p q h1 h2 h3 q1

theorem InsAt.done {a i j : Nat} {d D : Nat → Int} (h : InsAt a i j d D) (hj : j = a ∨ (a < j ∧ ¬ cls (D j) < cls (D (j - 1)))) (hji : j ≤ i) : Arr a (i + 1) d D ∧ RiseF D a (i + 1) := by
  refine ⟨h.arr, ?_⟩
  intro p q h1 h2 h3
  by_cases q1 : q = j
  · subst q1
    rcases hj with rfl | ⟨h4, h5⟩
    · obtain rfl : p = q := by omega
      exact Int.le_refl _
    · by_cases p1 : p = q
      · rw [p1]; exact Int.le_refl _
      · have := h.rise p (q - 1) h1 (by omega) (by omega) (by omega); omega
  · exact h.rise p q h1 h2 (by omega) q1

set_option maxHeartbeats 3200000 in
theorem insertion_any (blk off N cap a b bx : Nat) (d : Nat → Int) (I : World → Prop) (hI : CmpInv bx blk I) (w : World) (hw : I w) (hr : RowF .i32 w blk off N d) (hab : a ≤ b) (hbN : b ≤ N) (hN : N ≤ 1000000) (hcap : N ≤ cap) (hblk : blk < w.heap.size) :
    Calls Tryd.prog 72 #[.slice (some ⟨blk, off, none⟩) N cap, .int .i64 a, .int .i64 b, cmpV bx] w fun e w' =>
      e = .returned (.tuple #[]) ∧ ∃ d', RowF .i32 w' blk off N d' ∧ KeepR blk off N w w' ∧ Arr a b d d' ∧ RiseF d' a b := by
  unfold cmpV
  have HI := Lib.hid hI; clear hI
  have HW := Lib.hid hw; clear hw
  go_enter Tryd.func72, Tryd.ntmps72
  go_wp2
  go_loopw [8, 9] (fun x _ wr => ∃ (i : Nat) (D : Nat → Int), a + 1 ≤ i ∧ (i ≤ b ∨ i = a + 1) ∧ x = .int .i64 i ∧ RowF .i32 wr blk off N D ∧ KeepR blk off N w wr ∧ Arr a (min i b) d D ∧ RiseF D a (min i b))
    (fun x _ _ => b + 1 - (intOf x).toNat)
  case atStart =>
    refine ⟨a + 1, d, Nat.le_refl _, .inr rfl, by go_num, hr, KeepR.refl _ _ _ _, Arr.refl _ _ _, ?_⟩
    intro p q h1 h2 h3
    obtain rfl : p = q := by omega
    exact Int.le_refl _
  case round =>
    obtain ⟨i, D, hi1, hi2, rfl, hrow, hkeep, harr, hrise⟩ := hrel
    have HROW := Lib.hid hrow; clear hrow
    have HARR := Lib.hid harr; clear harr
    have HRISE := Lib.hid hrise; clear hrise
    have hbw := hkeep.size
    by_cases hlt : i < b
    · obtain ⟨wo, rfl⟩ : ∃ wo : World, wo = wr := ⟨_, rfl⟩
      have emin : min i b = i := by omega
      have harr1 := HARR.out
      have hrise1 := HRISE.out
      rw [emin] at harr1 hrise1
      have HINS := Lib.hid (InsAt.start harr1 hrise1 (by omega))
      clear HARR HRISE emin harr1 hrise1
      go_wp2
      go_loopw [9] (fun y wr => ∃ (j : Nat) (E : Nat → Int), a ≤ j ∧ j ≤ i ∧ y = .int .i64 j ∧ RowF .i32 wr blk off N E ∧ KeepR blk off N w wr ∧ InsAt a i j d E) (fun y _ => (intOf y).toNat)
      case atStart => exact ⟨i, D, by omega, Nat.le_refl _, rfl, HROW.out, hkeep, HINS.out⟩
      case round =>
        clear HROW HINS hkeep hbw
        obtain ⟨j, E, hj1, hj2, rfl, hrow, hkeep, hins⟩ := hrel
        have HROW := Lib.hid hrow; clear hrow
        have HINS := Lib.hid hins; clear hins
        have hbw := hkeep.size
        by_cases hja : a < j
        · obtain ⟨j', hj'⟩ : ∃ j', j' + 1 = j := ⟨j - 1, by omega⟩
          have hg1 : decide (a < j) = true := decide_eq_true hja
          have i1 : (0 : Int) ≤ (j : Int) := by omega
          have i2 : (j : Int) < (N : Int) := by omega
          have i3 : (0 : Int) ≤ (j' : Int) := by omega
          have i4 : (j' : Int) < (N : Int) := by omega
          have i5 : IntKind.i64.wrap ((j : Int) - 1) = (j' : Int) := by rw [IntWalk.i64_in _ (by omega)]; omega
          obtain ⟨ca, fa⟩ := HROW.out j (by omega)
          obtain ⟨cb, fb⟩ := HROW.out j' (by omega)
          have HJ := Lib.hid hj'; clear hj'
          generalize hx : E j = x at ca
          generalize hy : E j' = y at cb
          have HX := Lib.hid hx; clear hx
          have HY := Lib.hid hy; clear hy
          have HWR : I wr := HI.out.keep _ _ HW.out hkeep.keep
          have HWR := Lib.hid HWR
          by_cases hxy : cls x - cls y < 0
          · go_wp2
            go_region_held3 (fun w' => w'.cell? ⟨blk, off + j, none⟩ = some (.int .i32 x) ∧ w'.cell? ⟨blk, off + j', none⟩ = some (.int .i32 y)) (first | go_keep | (refine ⟨?_, ?_⟩ <;> (rw [hb1.cell (by simp; omega)]; assumption)))
              (first | (go_at_call 70; refine (HI.out.cmp _ ?_ _ _).mono ?_; exact HI.out.keep _ _ HWR.out (Keep.of_drew _ _); rintro e w1 ⟨rfl, hb1⟩))
            have HROW1 := Lib.hid (HROW.out.drew.below hb1 (by simp; omega))
            have hk1 := (hkeep.trans (KeepR.of_drew _ _ _ _)).trans (KeepR.of_below hb1 rfl (by simp; omega))
            obtain ⟨ca1, fa1⟩ := HROW1.out j (by omega)
            obtain ⟨cb1, fb1⟩ := HROW1.out j' (by omega)
            rw [HX.out] at ca1
            rw [HY.out] at cb1
            have hjj : j ≠ j' := by have := HJ.out; omega
            go_wp2
            go_region
            go_wp2
            go_roundw
            case rel =>
              have hs := HROW1.out.swap j j' (by omega) (by omega)
              rw [HX.out, HY.out] at hs
              refine ⟨j', swapF E j j', by have := HJ.out; omega, by have := HJ.out; omega, rfl, hs, ?_, ?_⟩
              · exact (hk1.trans (KeepR.swap w1 blk off N _ _ _ _ (by omega) (by omega))).trans (KeepR.of_drew _ _ _ _)
              · have hI2 := HINS.out
                rw [← HJ.out] at hI2
                have hst := hI2.step (by have := HJ.out; omega) (by have := HJ.out; omega) (by rw [HJ.out, HX.out, HY.out]; omega)
                rw [HJ.out] at hst
                exact hst
            case measure => simp [intOf]; have := HJ.out; omega
          · go_wp2
            go_region_held3 (fun w' => w'.cell? ⟨blk, off + j, none⟩ = some (.int .i32 x) ∧ w'.cell? ⟨blk, off + j', none⟩ = some (.int .i32 y)) (first | go_keep | (refine ⟨?_, ?_⟩ <;> (rw [hb1.cell (by simp; omega)]; assumption)))
              (first | (go_at_call 70; refine (HI.out.cmp _ ?_ _ _).mono ?_; exact HI.out.keep _ _ HWR.out (Keep.of_drew _ _); rintro e w1 ⟨rfl, hb1⟩))
            have HROW1 := Lib.hid (HROW.out.drew.below hb1 (by simp; omega))
            have hk1 := (hkeep.trans (KeepR.of_drew _ _ _ _)).trans (KeepR.of_below hb1 rfl (by simp; omega))
            go_wp2
            have hfin := HINS.out.done (.inr ⟨hja, by rw [HX.out, show j - 1 = j' from by have := HJ.out; omega, HY.out]; omega⟩) hj2
            have emn : min (i + 1) b = i + 1 := by omega
            refine ⟨⟨i + 1, E, by omega, by omega, by go_num, HROW1.out, hk1, by rw [emn]; exact hfin.1, by rw [emn]; exact hfin.2⟩, by simp [intOf]; omega⟩
        · have hd : decide (a < j) = false := by simp; omega
          go_wp2
          go_quiet (fail)
          go_wp2
          have hfin := HINS.out.done (.inl (by omega)) hj2
          have emn : min (i + 1) b = i + 1 := by omega
          refine ⟨⟨i + 1, E, by omega, by omega, by go_num, HROW.out, hkeep.trans (KeepR.of_drewN _ _ _ _ _), by rw [emn]; exact hfin.1, by rw [emn]; exact hfin.2⟩, by simp [intOf]; omega⟩
    · go_wp2
      go_end0
      have e : min i b = b := by omega
      have h1 := HARR.out
      have h2 := HRISE.out
      rw [e] at h1 h2
      exact ⟨rfl, D, HROW.out, hkeep, h1, h2⟩

end Go.Proofs.YtplobpelhcagpaaDoor
