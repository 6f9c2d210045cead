/-
  Multi: the chapter's example.
-/
import Derived.Test.YtplobpelhcagpaaDoorMsQ
namespace Go.Proofs.YtplobpelhcagpaaDoor
open Go.RowKit Go.Shelf Pl14

def aw1 : MRow := (⟨#[65]⟩, ⟨#[97]⟩, 0)
def aw2 : MRow := (⟨#[224, 65]⟩, ⟨#[98]⟩, 0)
def awRs : List MRow := [aw1, aw2]
def awPs : List CT := [(⟨#[65]⟩, ⟨#[97]⟩), (⟨#[224, 65]⟩, ⟨#[98]⟩)]
theorem awPs_eq : psOf awRs = awPs := by rfl
theorem aw_check1 : checkE ⟨#[65]⟩ ⟨#[97]⟩ 0 = 0 := by decide
theorem aw_check2 : checkE ⟨#[224, 65]⟩ ⟨#[98]⟩ 0 = 0 := by decide
theorem aw_nfd1 : (nfdL (runesL ⟨#[97]⟩)).length ≤ 18 := by decide
theorem aw_nfd2 : (nfdL (runesL ⟨#[98]⟩)).length ≤ 18 := by decide
theorem aw_dec1 : DecOk [] [65] := ⟨rfl, rfl, fun _ _ => rfl⟩
theorem aw_dec2 : DecOk [(⟨#[65]⟩, ⟨#[97]⟩)] [224, 65] := by
  refine ⟨by decide, by decide, fun j hj => ?_⟩
  have : j = 0 ∨ j = 1 := by simp at hj; omega
  rcases this with rfl | rfl <;> decide
theorem awOk : RowsOk awRs := ⟨⟨aw_check1, aw_nfd1, .inr aw_dec1⟩, ⟨aw_check2, aw_nfd2, .inr aw_dec2⟩, trivial⟩
theorem awStep1 : stepP awPs 3 [224] 0 = ⟨[], [], [224], 0, false, 0⟩ := by decide
theorem awStep2 : stepP awPs 3 [224, 65, 224, 66] 0 = ⟨[98], [(2, 1), (3, 1)], [], 4, false, 0⟩ := by decide
theorem awStep3 : stepP awPs 3 [224] 4 = ⟨[], [], [224], 4, false, 0⟩ := by decide
theorem awFlush : flushP 3 [224] 4 = ([], [(4, 1)], 0) := by decide

theorem OwnF.shape {B : Nat} {w : World} {v : Value} {fs : List (Int × Int)} (h : OwnF B w v fs) : ∃ a cap, v = .slice a fs.length cap ∧ fs.length ≤ cap ∧ (∀ j, j < fs.length → ∃ g, a = some ⟨g, 0, none⟩ ∧ w.cell? ⟨g, j * 2, none⟩ = some (.int .i64 (fs.getD j (0, 0)).1) ∧ w.cell? ⟨g, j * 2 + 1, none⟩ = some (.int .i64 (fs.getD j (0, 0)).2)) := by
  obtain ⟨a, cap, rfl, h1, _, h3⟩ := ownsRow_shapeN h
  refine ⟨a, cap, rfl, h1, fun j hj => ?_⟩
  rcases h3 with ⟨_, _, h0⟩ | ⟨g, rfl, _⟩
  · omega
  · have hf : ∀ c, c < 2 → (fltC fs)[2 * j + c]? = ([Value.int .i64 (fs[j]).1, .int .i64 (fs[j]).2] : List Value)[c]? := fun c hc => flat_at (fun f : Int × Int => [Value.int .i64 f.1, .int .i64 f.2]) 2 (fun _ => rfl) fs j c hj hc
    have e : fs.getD j (0, 0) = fs[j] := by simp [List.getD_eq_getElem?_getD, hj]
    have ha : ∀ k, (⟨g, 0, none⟩ : Addr).add k = ⟨g, k, none⟩ := fun k => by unfold Addr.add; split <;> simp_all
    refine ⟨g, rfl, ?_, ?_⟩
    · have := World.ownsRow.cells h (g := g) rfl (2 * j + 0) _ (hf 0 (by decide))
      rw [ha] at this; rw [e, show j * 2 = 2 * j + 0 by omega]; exact this
    · have := World.ownsRow.cells h (g := g) rfl (2 * j + 1) _ (hf 1 (by decide))
      rw [ha] at this; rw [e, show j * 2 + 1 = 2 * j + 1 by omega]; exact this
theorem OwnF.keepDec {B : Nat} {w w' : World} {v : Value} {fs : List (Int × Int)} {db cb : Nat} {how at_ : Int} {held : ByteArray} {cl : Bool} (h : OwnF B w v fs) (hd : DecB w db cb how held at_ cl) (hk : Keep (fun j => j = db) w w') : OwnF B w' v fs := FltKept.of_blk hd (by decide) hk B v fs h

set_option maxRecDepth 100000 in
set_option maxHeartbeats 8000000 in
theorem awake_any (w : World) (hT : TabsAt w) : Calls Tryd.prog 11 #[] w fun e w' => e = .returned (.bool true) ∧ Below w.heap.size w w' := by
  have HT := Lib.hid hT; clear hT
  obtain ⟨W1, hW1⟩ : ∃ W, w.alloc (.cells #[.string ⟨#[65]⟩, .string ⟨#[97]⟩, .int .i64 0, .string ⟨#[224, 65]⟩, .string ⟨#[98]⟩, .int .i64 0] 47) = W := ⟨_, rfl⟩
  have hb1 : Below w.heap.size w W1 := by rw [← hW1]; exact (Below.refl _ _).alloc (Nat.le_refl _) _
  obtain ⟨rb, hrb⟩ : ∃ q, w.heap.size = q := ⟨_, rfl⟩
  have HR := Lib.hid (show RdM W1 (.slice (some ⟨rb, 0, none⟩) 2 2) awRs from by
    refine ⟨_, 2, rfl, by decide, by decide, (fun h => by cases h), .inr ⟨rb, 0, rfl, fun k u hk => ?_⟩⟩
    have hbk := Blk.new w #[.string ⟨#[65]⟩, .string ⟨#[97]⟩, .int .i64 0, .string ⟨#[224, 65]⟩, .string ⟨#[98]⟩, .int .i64 0] 47
    rw [hW1, hrb] at hbk
    have := hbk.cell (0 + k)
    rw [this, Nat.zero_add, ← Array.getElem?_toList]
    exact hk)
  have HB1 := Lib.hid hb1; clear hb1
  go_enter Tryd.func11, Tryd.ntmps11
  go_wp2_with (go_at_call 13; refine (small_any _).mono ?_; rintro e w' ⟨rfl, rfl⟩)
  refine (charNew_any _ awRs W1 HR.out (HT.out.below HB1.out rfl) (by decide) (by decide)).mono ?_
  rintro e W2 ⟨p, at_, er, rfl, hor, hb2⟩
  have HB2 := Lib.hid (HB1.out.trans (hb2.mono HB1.out.size))
  rcases hor with ⟨rfl, -, cb, tm, hm, c0, c2, c5, c6, B, rfl, hcs, -⟩ | ⟨-, -, hno⟩
  case inr => exact absurd awOk hno
  rw [awPs_eq] at hcs
  have hlt := hcs.lt
  have HC2 := Lib.hid (show ChLow W2 cb awPs W2.heap.size from ⟨tm, hm, c0, _, c2, c5, c6, B, hcs, hlt.1, hlt.2.1, hlt.2.2⟩)
  clear hcs hlt hb2 HR HB1 hW1
  have hps : textsLe awPs := by unfold textsLe; decide
  go_wp2_with fail
  refine (new_any cb 3 W2).mono ?_
  rintro e W3 (⟨-, rfl, hd3, hb3, hs3⟩ | ⟨hno, -, -⟩)
  case inr => exact absurd (show HowOk 3 from by unfold HowOk; omega) hno
  obtain ⟨db, hdb⟩ : ∃ q, W2.heap.size = q := ⟨_, rfl⟩
  rw [hdb] at hd3 hb3 hs3 HC2
  have HD3 := Lib.hid hd3
  have HC3 := Lib.hid (HC2.out.below hb3)
  have hwd : w.heap.size ≤ db := by have := HB2.out.size; omega
  have HB3 := Lib.hid (HB2.out.trans (hb3.mono hwd))
  try rw [hdb]
  clear hd3 hb3 HC2 HB2 hdb
  go_wp2_with fail
  refine (step_any db cb 3 ⟨#[]⟩ 0 awPs ⟨#[224]⟩ W3 HD3.out HC3.out hps (by decide) (by decide)).mono ?_
  rintro e W4 ⟨v4, x4, hx4, rfl, hf4, hd4, hk4⟩
  obtain rfl : (⟨[], [], [224], 0, false, 0⟩ : StepA) = x4 := awStep1.symm.trans hx4
  obtain ⟨a4, cap4, rfl, -, -⟩ := OwnF.shape hf4
  have HD4 := Lib.hid hd4
  have HC4 := Lib.hid (show ChLow W4 cb awPs db from HC3.out.below (hk4.below (by omega) (fun j e => by omega)))
  have HB4 := Lib.hid (HB3.out.trans (hk4.below (B := w.heap.size) (by omega) (fun j e => by omega)))
  have hs4 := hk4.size
  clear hx4 hf4 hd4 hk4 HD3 HC3 HB3
  go_wp2_with fail
  refine (step_any db cb 3 _ 0 awPs ⟨#[65, 224, 66]⟩ W4 HD4.out HC4.out hps (by decide) (by decide)).mono ?_
  rintro e W5 ⟨v5, x5, hx5, rfl, hf5, hd5, hk5⟩
  obtain rfl : (⟨[98], [(2, 1), (3, 1)], [], 4, false, 0⟩ : StepA) = x5 := awStep2.symm.trans hx5
  have HD5 := Lib.hid hd5
  have HF5 := Lib.hid hf5
  have HC5 := Lib.hid (show ChLow W5 cb awPs db from HC4.out.below (hk5.below (by omega) (fun j e => by omega)))
  have HB5 := Lib.hid (HB4.out.trans (hk5.below (B := w.heap.size) (by omega) (fun j e => by omega)))
  have hs5 := hk5.size
  obtain ⟨a5, cap5, hv5, -, -⟩ := OwnF.shape hf5
  subst hv5
  clear hx5 hf5 hd5 hk5 HD4 HC4 HB4
  go_wp2_with fail
  refine (step_any db cb 3 _ 4 awPs ⟨#[224]⟩ W5 HD5.out HC5.out hps (by decide) (by decide)).mono ?_
  rintro e W6 ⟨v6, x6, hx6, rfl, hf6, hd6, hk6⟩
  obtain rfl : (⟨[], [], [224], 4, false, 0⟩ : StepA) = x6 := awStep3.symm.trans hx6
  have HD6 := Lib.hid hd6
  have HF6 := Lib.hid (HF5.out.keepDec HD5.out hk6)
  have HB6 := Lib.hid (HB5.out.trans (hk6.below (B := w.heap.size) (by omega) (fun j e => by omega)))
  have hs6 := hk6.size
  obtain ⟨a6, cap6, rfl, -, -⟩ := OwnF.shape hf6
  clear hx6 hf6 hd6 hk6 HD5 HF5 HC5 HB5
  go_wp2_with fail
  refine (flush_any db cb 3 _ 4 W6 HD6.out (by decide) (by decide)).mono ?_
  rintro e W7 ⟨v7, t7, fs7, er7, hx7, rfl, hf7, hd7, hk7⟩
  have hx7' := awFlush.symm.trans hx7
  obtain ⟨rfl, rfl, rfl⟩ : ([] : Bytes) = t7 ∧ [((4 : Int), (1 : Int))] = fs7 ∧ (0 : Int) = er7 := by simpa using hx7'
  have HF7 := Lib.hid (HF6.out.keepDec HD6.out hk7)
  have HB7 := Lib.hid (HB6.out.trans (hk7.below (B := w.heap.size) (by omega) (fun j e => by omega)))
  obtain ⟨_, _, e5, -, h5⟩ := OwnF.shape HF7.out
  obtain ⟨a7, cap7, rfl, -, h7⟩ := OwnF.shape hf7
  cases e5
  obtain ⟨g5, rfl, k0, k1⟩ := h5 0 (by decide)
  obtain ⟨_, e5, k2, k3⟩ := h5 1 (by decide)
  cases e5
  obtain ⟨g7, rfl, k4, k5⟩ := h7 0 (by decide)
  clear h5 h7 hx7 hx7' hf7 hd7 hk7 HD6 HF6 HB6
  simp at k0 k1 k2 k3 k4 k5
  go_wp2
  go_ret
  exact ⟨rfl, HB7.out⟩

end Go.Proofs.YtplobpelhcagpaaDoor
