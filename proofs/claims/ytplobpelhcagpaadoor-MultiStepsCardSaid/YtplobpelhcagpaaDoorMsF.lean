/-
  Multi: mapfile's Check.
-/
import Derived.Test.YtplobpelhcagpaaDoorMsE
namespace Go.Proofs.YtplobpelhcagpaaDoor
open Go.RowKit Go.Shelf Pl14

/-- the tables of utf8 lie in w as the program's text lays them -/
def TabsAt (w : World) : Prop := Lib.Utf8Tabs (Sh_laysValid_ren.g 3) (Sh_laysValid_ren.g 4) w
theorem TabsAt.below {w w' : World} {B : Nat} (h : TabsAt w) (hb : Below B w w') (hB : B = w.heap.size) : TabsAt w' := by
  refine ⟨fun c hc => ?_, fun i hi => ⟨?_, ?_⟩⟩
  · have := h.1 c hc; exact (hb.cell (p := ⟨_, c, none⟩) (by rw [hB]; exact cell_lt this)).trans this
  · have := (h.2 i hi).1; exact (hb.cell (p := ⟨_, 2 * i, none⟩) (by rw [hB]; exact cell_lt this)).trans this
  · have := (h.2 i hi).2; exact (hb.cell (p := ⟨_, 2 * i + 1, none⟩) (by rw [hB]; exact cell_lt this)).trans this

/-- a row's value -/
def rowV (c t : ByteArray) (f : Int) : Value := .agg #[.string c, .string t, .int .i64 f]
def checkE (c t : ByteArray) (f : Int) : Int :=
  if c.size < 1 ∨ 4 < c.size ∨ (Lib.runeCount t : Int) < 1 ∨ 18 < (Lib.runeCount t : Int) ∨ Lib.validD t.data.toList = false then 11 else if f = 0 ∨ f = 1 ∨ f = 3 then 0 else 16

set_option maxHeartbeats 4000000 in
theorem check_any (c t : ByteArray) (f : Int) (w : World) (hT : TabsAt w) (ht : t.size ≤ 1000000) :
    Calls Tryd.prog 41 #[rowV c t f] w fun e w' => e = .returned (.int .i64 (checkE c t f)) ∧ Below w.heap.size w w' := by
  have HT := Lib.hid hT; clear hT
  obtain ⟨n, hn⟩ : ∃ n : Int, (Lib.runeCount t : Int) = n := ⟨_, rfl⟩
  obtain ⟨vd, hvd⟩ : ∃ v, Lib.validD t.data.toList = v := ⟨_, rfl⟩
  unfold checkE
  rw [hn, hvd]
  obtain ⟨ANS, hA⟩ : ∃ q : Int, (if c.size < 1 ∨ 4 < c.size ∨ n < 1 ∨ 18 < n ∨ vd = false then (11 : Int) else if f = 0 ∨ f = 1 ∨ f = 3 then 0 else 16) = q := ⟨_, rfl⟩
  rw [hA]
  have HA := Lib.hid hA; clear hA
  have HN := Lib.hid hn; clear hn
  have HVD := Lib.hid hvd; clear hvd
  unfold rowV
  go_enter Tryd.func41, Tryd.ntmps41
  go_wp2_with fail
  refine (Sh_utf8_RuneCountInString t _ (by omega)).mono ?_
  rintro e w1 ⟨rfl, pos, hw1⟩
  have hb1 : Below w.heap.size w w1 := by rw [hw1]; exact ((Below.refl _ _).alloc (Nat.le_refl _) _).alloc (by simp) _
  have hx1 : Blk w1 w.heap.size #[.string c, .string t, .int .i64 f] 47 := by rw [hw1]; exact (Blk.new _ _ _).grown (World.grownBy_alloc _ _ none) (by simp)
  clear hw1
  have x0 := hx1.cell 0
  have x1 := hx1.cell 1
  have x2 := hx1.cell 2
  simp at x0 x1 x2
  have HT1 := Lib.hid (HT.out.below hb1 rfl)
  have HB1 := Lib.hid hb1; clear hb1
  have HX1 := Lib.hid hx1; clear hx1
  have hnn := HN.out
  rw [hnn]
  clear hnn
  by_cases h1 : c.size < 1
  · have HQ := Lib.hid (show ANS = 11 by rw [← HA.out, if_pos (.inl h1)])
    have e1 : (c.size : Int) < 1 := by omega
    go_wp2
    go_ret
    exact ⟨ret_int HQ.out.symm, HB1.out⟩
  have e1 : ¬ (c.size : Int) < 1 := by omega
  by_cases h2 : 4 < c.size
  · have HQ := Lib.hid (show ANS = 11 by rw [← HA.out, if_pos (.inr (.inl h2))])
    have e2 : (4 : Int) < (c.size : Int) := by omega
    go_wp2
    go_ret
    exact ⟨ret_int HQ.out.symm, HB1.out⟩
  have e2 : ¬ (4 : Int) < (c.size : Int) := by omega
  by_cases h3 : n < 1
  · have HQ := Lib.hid (show ANS = 11 by rw [← HA.out, if_pos (.inr (.inr (.inl h3)))])
    go_wp2
    go_ret
    exact ⟨ret_int HQ.out.symm, HB1.out⟩
  by_cases h4 : 18 < n
  · have HQ := Lib.hid (show ANS = 11 by rw [← HA.out, if_pos (.inr (.inr (.inr (.inl h4))))])
    go_wp2
    go_ret
    exact ⟨ret_int HQ.out.symm, HB1.out⟩
  go_wp2_with fail
  refine (Sh_utf8_ValidString t w1 (by omega) HT1.out).mono ?_
  rintro e w2 ⟨rfl, hb2⟩
  have HB2 := Lib.hid (HB1.out.trans (hb2.mono HB1.out.size))
  have hx2 := HX1.out.below hb2 HX1.out.lt
  have y2 := hx2.cell 2
  simp at y2
  clear x0 x1 x2 hx2 hb2
  rw [HVD.out]
  cases vd with
  | false =>
    have HQ := Lib.hid (show ANS = 11 by rw [← HA.out, if_pos (by simp)])
    go_wp2
    go_ret
    exact ⟨ret_int HQ.out.symm, HB2.out⟩
  | true =>
    have H34 := Lib.hid (And.intro (And.intro h1 h2) (And.intro h3 h4))
    have HA2 := Lib.hid (show ANS = if f = 0 ∨ f = 1 ∨ f = 3 then 0 else 16 by rw [← HA.out, if_neg (by have := H34.out; rintro (h | h | h | h | h) <;> first | omega | cases h)])
    by_cases f0 : f = 0
    · have g0 : (f != 0) = false := by simp [f0]
      have HQ := Lib.hid (show ANS = 0 by rw [HA2.out, if_pos (.inl f0)])
      clear f0
      go_wp2
      go_ret
      exact ⟨ret_int HQ.out.symm, HB2.out⟩
    have g0 : (f != 0) = true := by simp [f0]
    by_cases f1 : f = 1
    · have g1 : (f != 1) = false := by simp [f1]
      have HQ := Lib.hid (show ANS = 0 by rw [HA2.out, if_pos (.inr (.inl f1))])
      clear f1 f0
      go_wp2
      go_ret
      exact ⟨ret_int HQ.out.symm, HB2.out⟩
    have g1 : (f != 1) = true := by simp [f1]
    by_cases f3 : f = 3
    · have g3 : (f != 3) = false := by simp [f3]
      have HQ := Lib.hid (show ANS = 0 by rw [HA2.out, if_pos (.inr (.inr f3))])
      clear f3 f1 f0
      go_wp2
      go_ret
      exact ⟨ret_int HQ.out.symm, HB2.out⟩
    have g3 : (f != 3) = true := by simp [f3]
    have HQ := Lib.hid (show ANS = 16 by rw [HA2.out, if_neg (by simp [f0, f1, f3])])
    clear f3 f1 f0
    go_wp2
    go_ret
    exact ⟨ret_int HQ.out.symm, HB2.out⟩

end Go.Proofs.YtplobpelhcagpaaDoor
