/-
  The law TrieCopies, walked.
-/
import Derived.Test.YtkpkcimghkmkfaaTrW
import Derived.Test.YtkpkcimghkmkfaaLibX
namespace Go.Proofs.Ytkpkcimghkmkfaa
open Go.RowKit Go.Shelf
attribute [local go_sem] Oper.semAt_some

theorem row_keep {w w' : World} {S : Nat → Prop} {B e sz n : Nat} {v : Value} {xs : List Value} (h : w.ownsRow B e sz v n xs) (hk : Keep S w w') (hv : ∀ j, v.ownBlock = some j → ¬ S j) : w'.ownsRow B e sz v n xs := by
  refine ⟨h.1, ?_⟩
  rcases h.2 with hn | ⟨g, cap, cur, rfl, hb, hgg, rest⟩
  · exact .inl hn
  · exact .inr ⟨g, cap, cur, rfl, hb, (hk.block g (Array.getElem?_eq_some_iff.1 hgg).1 (hv g rfl)).trans hgg, rest⟩

set_option maxRecDepth 100000 in
set_option maxHeartbeats 8000000 in
theorem copies_walk (vl vm : Value) (ss mm : List (Int × Int × Int)) (w : World) (hl : RdSp w vl ss) (hm : RdSp w vm mm) :
    Calls Try.prog 6 #[vl, vm] w fun e w' => e = .returned (.bool true) ∧ Below w.heap.size w w' := by
  have hnn := func_not_nil Try.underlying37
  have HNN := Lib.hid hnn
  obtain ⟨va, vc, rfl, hl1, hl2, hl3⟩ := id hl
  obtain ⟨ua, uc, rfl, hm1, hm2, hm3⟩ := id hm
  have HL := Lib.hid hl; clear hl
  have HL3 := Lib.hid hl3; clear hl3
  have HM := Lib.hid hm; clear hm
  have HM3 := Lib.hid hm3; clear hm3
  refine (callsIn_wide (n := 9)).1 ?_
  refine callsIn_of_wp_marks Try.func6 rfl trivial ?_ rfl
  simp only [Try.ntmps6, List.size_toArray, List.length_cons, List.length_nil, Nat.reduceAdd, Nat.reduceSub, Array.replicate_succ, Array.replicate_zero, List.push_toArray, List.append_toArray, List.nil_append, List.cons_append]
  refine wpIn_wide.2 ?_
  go_wp2_with fail
  obtain ⟨RB, hRB⟩ : ∃ q, w.heap.size = q := ⟨_, rfl⟩
  obtain ⟨W0, hW0⟩ : ∃ W0, w.alloc (.cells #[.bool false] 4) = W0 := ⟨_, rfl⟩
  have hB0 : Below w.heap.size w W0 := by rw [← hW0]; exact (Below.refl _ _).alloc (Nat.le_refl _) _
  have hrb0 : Boxed W0 RB 4 (.bool false) := by rw [← hW0, ← hRB]; exact Boxed.new _ _ _
  have hRBl : RB < W0.heap.size := hrb0.lt
  rw [hW0]
  try rw [hRB]
  have hRBw : w.heap.size ≤ RB := by rw [hRB]; exact Nat.le_refl _
  clear hRB hW0
  refine (new_any _ rfl 0 W0).mono ?_
  rintro e w1 ⟨ba, ma, rfl, hba, hma, hTa, hb1⟩
  have HTa := Lib.hid hTa; clear hTa
  have hbb1 := hB0.trans (hb1.mono hB0.size)
  have hrb1 : Boxed w1 RB 4 (.bool false) := (hb1.block _ hrb0.lt).trans hrb0
  go_wp2_with fail
  refine (wide_few _ ss w1 (HL.out.mono hbb1 rfl)).mono ?_
  rintro e w3 ⟨⟨t1, rfl, h40⟩, hb3⟩
  have hbb3 := hbb1.trans (hb3.mono hbb1.size)
  have hrb3 : Boxed w3 RB 4 (.bool false) := (hb3.block _ hrb1.lt).trans hrb1
  cases t1 with
  | true =>
    go_wp2_with fail
    refine (awake_any _).mono ?_
    rintro e w9 ⟨rfl, hb9⟩
    have hrb9 : Boxed w9 RB 4 (.bool false) := (hb9.block _ hrb3.lt).trans hrb3
    have hrc := hrb9.cell
    have hrf := hrb9.frozen
    go_wp2
    have hrb10 := hrb9.set (.bool true)
    have hbb9 := hbb3.trans (hb9.mono hbb3.size)
    exact ⟨_, results_cell1 (a := ⟨RB, 0, none⟩) rfl rfl (by simp [loadVar, Try.isAgg4, go_sem, hrb10.cell]), rfl, hbb9.setCell (p := ⟨RB, 0, none⟩) hRBw _⟩
  | false =>
    have hss := h40 rfl
    clear h40
    have HTa3 := Lib.hid (HTa.out.keep (Keep.of_below (S := fun _ => False) hb3 rfl) (fun h => h) (fun h => h))
    go_wp2_with fail
    refine (wide_few _ mm w3 (HM.out.mono hbb3 rfl)).mono ?_
    rintro e w4 ⟨⟨t2, rfl, g40⟩, hb4⟩
    have hbb4 := hbb3.trans (hb4.mono hbb3.size)
    have hrb4 : Boxed w4 RB 4 (.bool false) := (hb4.block _ hrb3.lt).trans hrb3
    cases t2 with
    | true =>
      go_wp2_with fail
      refine (awake_any _).mono ?_
      rintro e w9 ⟨rfl, hb9⟩
      have hrb9 : Boxed w9 RB 4 (.bool false) := (hb9.block _ hrb4.lt).trans hrb4
      have hrc := hrb9.cell
      have hrf := hrb9.frozen
      go_wp2
      have hrb10 := hrb9.set (.bool true)
      have hbb9 := hbb4.trans (hb9.mono hbb4.size)
      exact ⟨_, results_cell1 (a := ⟨RB, 0, none⟩) rfl rfl (by simp [loadVar, Try.isAgg4, go_sem, hrb10.cell]), rfl, hbb9.setCell (p := ⟨RB, 0, none⟩) hRBw _⟩
    | false =>
      have hmm := g40 rfl
      clear g40
      have HTa4 := Lib.hid (HTa3.out.keep (Keep.of_below (S := fun _ => False) hb4 rfl) (fun h => h) (fun h => h))
      go_wp2_with fail
      obtain ⟨rb, hrb⟩ : ∃ q, w4.heap.size = q := ⟨_, rfl⟩
      obtain ⟨W5, hW5⟩ : ∃ W5, w4.alloc (.cells #[.int .i64 0, .slice none 0 0] 29) = W5 := ⟨_, rfl⟩
      have hb5 : Below w4.heap.size w4 W5 := by rw [← hW5]; exact (Below.refl _ _).alloc (Nat.le_refl _) _
      have hR5 : RefAt W5 rb rb 0 [] (.slice none 0 0) := ⟨by rw [← hW5, ← hrb]; exact Blk.new _ _ _, World.ownsRow_nil _ _ _ _⟩
      have hs5 : W5.heap.size = rb + 1 := by rw [← hW5, ← hrb]; simp
      have hbb5 := hbb4.trans (hb5.mono hbb4.size)
      have HT5 := Lib.hid (HTa4.out.keep (Keep.of_below (S := fun _ => False) hb5 rfl) (fun h => h) (fun h => h))
      have hrb5 : Boxed W5 RB 4 (.bool false) := (hb5.block _ hrb4.lt).trans hrb4
      have hlt1 := HTa4.out.blk.lt
      have hlt2 := HTa4.out.ltm
      have hlt3 := hrb4.lt
      have hwrb : w.heap.size ≤ rb := by rw [← hrb]; exact hbb4.size
      have hwm : w.heap.size ≤ ma := by have := hB0.size; omega
      rw [hrb] at hlt1 hlt2 hlt3
      have hneR : RB ≠ ma := by omega
      rw [hW5]
      try rw [hrb]
      clear hW5 hrb
      have HR5 := Lib.hid hR5; clear hR5
      have HB5 := Lib.hid hbb5; clear hbb5
      have HRB5 := Lib.hid hrb5; clear hrb5
      clear hb1 hb3 hb4 hb5 hbb1 hbb3 hbb4 hrb0 hrb1 hrb3 hrb4 HTa HTa3 HTa4 hB0 hRBl hba hma
      go_loopw [7] (fun s7 wr => ∃ (i : Nat) (f : Nat → Int) (L : List Pc) (v : Value), i ≤ ss.length ∧ s7 = .int .i64 i ∧ TabAt Try.prog wr ba ma 0 f ∧ RefAt wr rb rb 0 L v ∧ (∀ r, r < 1114112 → f r = refF 0 L r) ∧ L.length ≤ i ∧ rb ≤ wr.heap.size ∧ Boxed wr RB 4 (.bool false) ∧ Below w.heap.size w wr)
        (fun s7 _ => ss.length - (intOf s7).toNat)
      case atStart => exact ⟨0, fun _ => 0, [], _, Nat.zero_le _, rfl, HT5.out, HR5.out, fun _ _ => rfl, Nat.zero_le _, by omega, HRB5.out, HB5.out⟩
      case round =>
        obtain ⟨i, f, L, v, hi, rfl, hT, hR, hfe, hLi, hrs, hRb, hB⟩ := hrel
        have HFE := Lib.hid hfe; clear hfe
        have hbs := hB.size
        by_cases hlt : i < ss.length
        · obtain ⟨bl, o, rfl, hc⟩ : ∃ bb o, va = some ⟨bb, o, none⟩ ∧ ∀ j, j < ss.length → w.cell? ⟨bb, o + j * 3, none⟩ = some (.int .i32 (ss.getD j (0, 0, 0)).1) ∧ w.cell? ⟨bb, o + j * 3 + 1, none⟩ = some (.int .i32 (ss.getD j (0, 0, 0)).2.1) ∧ w.cell? ⟨bb, o + j * 3 + 2, none⟩ = some (.int .i64 (ss.getD j (0, 0, 0)).2.2) := by
            rcases HL3.out with h | ⟨bb, o, h, hc⟩
            · rw [h] at hlt; simp at hlt
            · exact ⟨bb, o, h, fun j hj => ⟨(hc j hj).1, (hc j hj).2.1, (hc j hj).2.2.1⟩⟩
          obtain ⟨c0, c1, c2⟩ := hc i hlt
          clear hc
          obtain ⟨sa, hsa⟩ : ∃ x, (ss.getD i (0, 0, 0)).1 = x := ⟨_, rfl⟩
          obtain ⟨sb, hsb⟩ : ∃ x, (ss.getD i (0, 0, 0)).2.1 = x := ⟨_, rfl⟩
          obtain ⟨sv, hsv⟩ : ∃ x, (ss.getD i (0, 0, 0)).2.2 = x := ⟨_, rfl⟩
          rw [hsa] at c0
          rw [hsb] at c1
          rw [hsv] at c2
          have hbw := cell_lt c0
          have d0 : wr.drew.cell? ⟨bl, o + i * 3, none⟩ = some (.int .i32 sa) := (hB.cell (p := ⟨bl, o + i * 3, none⟩) (cell_lt c0)).trans c0
          have d1 : wr.drew.cell? ⟨bl, o + i * 3 + 1, none⟩ = some (.int .i32 sb) := (hB.cell (p := ⟨bl, o + i * 3 + 1, none⟩) (cell_lt c1)).trans c1
          have d2 : wr.drew.cell? ⟨bl, o + i * 3 + 2, none⟩ = some (.int .i64 sv) := (hB.cell (p := ⟨bl, o + i * 3 + 2, none⟩) (cell_lt c2)).trans c2
          have i0 : (0 : Int) ≤ (i : Int) := by omega
          have i1 : (i : Int) < (ss.length : Int) := by omega
          have HT5 := Lib.hid hT.drew
          have HR5 := Lib.hid hR.drew
          have hvl : ∀ j, v.ownBlock = some j → rb ≤ j := fun j e => (hR.row.lt j e).1
          have HRb5 := Lib.hid (show Boxed wr.drew RB 4 (.bool false) from hRb)
          have HB5 := Lib.hid hB.drew; clear hB hT hR hRb
          clear c0 c1 c2
          go_wp2_with fail
          have hS0 : wr.drew.cell? ⟨bl, o + i * 3, none⟩ = some (.int .i32 sa) ∧ wr.drew.cell? ⟨bl, o + i * 3 + 1, none⟩ = some (.int .i32 sb) ∧ wr.drew.cell? ⟨bl, o + i * 3 + 2, none⟩ = some (.int .i64 sv) := ⟨d0, d1, d2⟩
          refine wp_region_noPanic ?_
          refine wp_region_held_drew (S := fun w' => w'.cell? ⟨bl, o + i * 3, none⟩ = some (.int .i32 sa) ∧ w'.cell? ⟨bl, o + i * 3 + 1, none⟩ = some (.int .i32 sb) ∧ w'.cell? ⟨bl, o + i * 3 + 2, none⟩ = some (.int .i64 sv)) (by kernel_rfl) hS0 (fun hHeld => ?_)
          clear hS0
          refine wpAnyH_takeD (i := 0) (d := some 39) (v := ?_) rfl rfl (by kernel_rfl) (by kernel_rfl) (by kernel_rfl) (fun _ _ _ h => h) (Or.inl ⟨by rfl, ?_⟩) (by assumption) ?_
          rotate_left
          · intro w hSw; (try dsimp only at hSw); go_simp; all_goals (with_reducible rfl)
          simp only [Act.put, List.setIfInBounds_toArray, List.set_cons_zero, List.set_cons_succ]
          refine wpAnyH_takeD (i := 1) (d := some 40) (v := ?_) rfl rfl (by kernel_rfl) (by kernel_rfl) (by kernel_rfl) (fun _ _ _ h => h) (Or.inl ⟨by rfl, ?_⟩) (by assumption) ?_
          rotate_left
          · intro w hSw; (try dsimp only at hSw); go_simp; all_goals (with_reducible rfl)
          simp only [Act.put, List.setIfInBounds_toArray, List.set_cons_zero, List.set_cons_succ]
          refine wpAnyH_takeD (i := 2) (d := some 41) (v := ?_) rfl rfl (by kernel_rfl) (by kernel_rfl) (by kernel_rfl) (fun _ _ _ h => h) (Or.inl ⟨by rfl, ?_⟩) (by assumption) ?_
          rotate_left
          · intro w hSw; (try dsimp only at hSw); go_simp; all_goals (with_reducible rfl)
          simp only [Act.put, List.setIfInBounds_toArray, List.set_cons_zero, List.set_cons_succ]
          refine wpAnyH_takeD (i := 3) (d := some 42) (v := ?_) rfl rfl (by kernel_rfl) (by kernel_rfl) (by kernel_rfl) (fun _ _ _ h => h) (Or.inl ⟨by rfl, ?_⟩) (by assumption) ?_
          rotate_left
          · intro w hSw; (try dsimp only at hSw); go_simp; all_goals (with_reducible rfl)
          simp only [Act.put, List.setIfInBounds_toArray, List.set_cons_zero, List.set_cons_succ]
          refine wpAnyH_takeD (i := 4) (d := some 43) (v := ?_) rfl rfl (by kernel_rfl) (by kernel_rfl) (by kernel_rfl) (fun _ _ _ h => h) (Or.inl ⟨by rfl, ?_⟩) (by assumption) ?_
          rotate_left
          · intro w hSw; (try dsimp only at hSw); go_simp; all_goals (with_reducible rfl)
          simp only [Act.put, List.setIfInBounds_toArray, List.set_cons_zero, List.set_cons_succ]
          refine wpAnyH_takeD (i := 5) (d := some 44) (v := ?_) rfl rfl (by kernel_rfl) (by kernel_rfl) (by kernel_rfl) (fun _ _ _ h => h) (Or.inl ⟨by rfl, ?_⟩) (by assumption) ?_
          rotate_left
          · intro w hSw; (try dsimp only at hSw); go_simp; all_goals (with_reducible rfl)
          simp only [Act.put, List.setIfInBounds_toArray, List.set_cons_zero, List.set_cons_succ]
          refine wpAnyH_takeD (i := 6) (d := some 45) (v := ?_) rfl rfl (by kernel_rfl) (by kernel_rfl) (by kernel_rfl) (fun _ _ _ h => h) (Or.inl ⟨by rfl, ?_⟩) (by assumption) ?_
          rotate_left
          · intro w hSw; (try dsimp only at hSw); go_simp; all_goals (with_reducible rfl)
          simp only [Act.put, List.setIfInBounds_toArray, List.set_cons_zero, List.set_cons_succ]
          refine wpAnyH_takeD (i := 7) (d := some 46) (v := ?_) rfl rfl (by kernel_rfl) (by kernel_rfl) (by kernel_rfl) (fun _ _ _ h => h) (Or.inl ⟨by rfl, ?_⟩) (by assumption) ?_
          rotate_left
          · intro w hSw; (try dsimp only at hSw); go_simp; all_goals (with_reducible rfl)
          simp only [Act.put, List.setIfInBounds_toArray, List.set_cons_zero, List.set_cons_succ]
          refine wpAnyH_takeD (i := 8) (d := some 47) (v := ?_) rfl rfl (by kernel_rfl) (by kernel_rfl) (by kernel_rfl) (fun _ _ _ h => h) (Or.inl ⟨by rfl, ?_⟩) (by assumption) ?_
          rotate_left
          · intro w hSw; (try dsimp only at hSw); go_simp; all_goals (with_reducible rfl)
          simp only [Act.put, List.setIfInBounds_toArray, List.set_cons_zero, List.set_cons_succ]
          refine wpAnyH_takeD (i := 9) (d := some 48) (v := ?_) rfl rfl (by kernel_rfl) (by kernel_rfl) (by kernel_rfl) (fun _ _ _ h => h) (Or.inl ⟨by rfl, ?_⟩) (by assumption) ?_
          rotate_left
          · intro w hSw; (try dsimp only at hSw); go_simp; all_goals (with_reducible rfl)
          simp only [Act.put, List.setIfInBounds_toArray, List.set_cons_zero, List.set_cons_succ]
          refine wpAnyH_takeD (i := 10) (d := some 49) (v := ?_) rfl rfl (by kernel_rfl) (by kernel_rfl) (by kernel_rfl) (fun _ _ _ h => h) (Or.inl ⟨by rfl, ?_⟩) (by assumption) ?_
          rotate_left
          · intro w hSw; (try dsimp only at hSw); go_simp; all_goals (with_reducible rfl)
          simp only [Act.put, List.setIfInBounds_toArray, List.set_cons_zero, List.set_cons_succ]
          refine wpAnyH_takeD (i := 11) (d := some 50) (v := ?_) rfl rfl (by kernel_rfl) (by kernel_rfl) (by kernel_rfl) (fun _ _ _ h => h) (Or.inl ⟨by rfl, ?_⟩) (by assumption) ?_
          rotate_left
          · intro w hSw; (try dsimp only at hSw); go_simp; all_goals (with_reducible rfl)
          simp only [Act.put, List.setIfInBounds_toArray, List.set_cons_zero, List.set_cons_succ]
          refine wpAnyH_takeD (i := 12) (d := some 51) (v := ?_) rfl rfl (by kernel_rfl) (by kernel_rfl) (by kernel_rfl) (fun _ _ _ h => h) (Or.inl ⟨by rfl, ?_⟩) (by assumption) ?_
          rotate_left
          · intro w hSw; (try dsimp only at hSw); go_simp; all_goals (with_reducible rfl)
          simp only [Act.put, List.setIfInBounds_toArray, List.set_cons_zero, List.set_cons_succ]
          refine wpAnyH_takeD (i := 13) (d := some 52) (v := ?_) rfl rfl (by kernel_rfl) (by kernel_rfl) (by kernel_rfl) (fun _ _ _ h => h) (Or.inl ⟨by rfl, ?_⟩) (by assumption) ?_
          rotate_left
          · intro w hSw; (try dsimp only at hSw); go_simp; all_goals (with_reducible rfl)
          simp only [Act.put, List.setIfInBounds_toArray, List.set_cons_zero, List.set_cons_succ]
          refine wpAnyH_takeD (i := 14) (d := some 53) (v := ?_) rfl rfl (by kernel_rfl) (by kernel_rfl) (by kernel_rfl) (fun _ _ _ h => h) (Or.inl ⟨by rfl, ?_⟩) (by assumption) ?_
          rotate_left
          · intro w hSw; (try dsimp only at hSw); go_simp; all_goals (with_reducible rfl)
          simp only [Act.put, List.setIfInBounds_toArray, List.set_cons_zero, List.set_cons_succ]
          refine wpAnyH_takeD (i := 15) (d := some 54) (v := ?_) rfl rfl (by kernel_rfl) (by kernel_rfl) (by kernel_rfl) (fun _ _ _ h => h) (Or.inl ⟨by rfl, ?_⟩) (by assumption) ?_
          rotate_left
          · intro w hSw; (try dsimp only at hSw); go_simp; all_goals (with_reducible rfl)
          simp only [Act.put, List.setIfInBounds_toArray, List.set_cons_zero, List.set_cons_succ]
          refine wpAnyH_ready (rs := [16]) (by kernel_rfl) (by simp) ?_
          refine AllReadyH.cons (o := _) rfl (fun K hK => ?_) AllReadyH.nil
          go_simp
          refine (set_anyZ ba ma 0 f sa sb sv wr.drew HT5.out).mono ?_
          rintro e w5 ⟨rfl, hT6, hk6⟩
          go_wp2_with fail
          have g0 := hk6.cell d0 (by show ¬ bl = ma; omega)
          have g1 := hk6.cell d1 (by show ¬ bl = ma; omega)
          have g2 := hk6.cell d2 (by show ¬ bl = ma; omega)
          refine hK.out _ _ (And.intro g0 (And.intro g1 g2)) (fun hHeld => ?_)
          clear hK K d0 d1 d2
          try simp only [Act.put, List.setIfInBounds_toArray, List.set_cons_zero, List.set_cons_succ]
          have HT6 := Lib.hid hT6.drew; clear hT6
          have HR6 := Lib.hid (HR5.out.keep hk6 (by show ¬ rb = ma; omega) (fun j e => by have := hvl j e; show ¬ j = ma; omega)).drew
          have hs56 : wr.heap.size ≤ w5.heap.size := hk6.size
          have HRb6 := Lib.hid (show Boxed w5.drew RB 4 (.bool false) from (hk6.block _ HRb5.out.lt (by show ¬ RB = ma; omega)).trans HRb5.out)
          have HB6 := Lib.hid (HB5.out.trans (hk6.below hbs (fun j e => by omega))).drew
          clear hk6
          have d0 : w5.drew.cell? ⟨bl, o + i * 3, none⟩ = some (.int .i32 sa) := g0
          have d1 : w5.drew.cell? ⟨bl, o + i * 3 + 1, none⟩ = some (.int .i32 sb) := g1
          have d2 : w5.drew.cell? ⟨bl, o + i * 3 + 2, none⟩ = some (.int .i64 sv) := g2
          clear g0 g1 g2
          refine wpAnyH_done (by kernel_rfl) ?_ _
          refine NoPanic.normal ?_
          go_wp2_with fail
          have hS0 : w5.drew.cell? ⟨bl, o + i * 3, none⟩ = some (.int .i32 sa) ∧ w5.drew.cell? ⟨bl, o + i * 3 + 1, none⟩ = some (.int .i32 sb) ∧ w5.drew.cell? ⟨bl, o + i * 3 + 2, none⟩ = some (.int .i64 sv) := ⟨d0, d1, d2⟩
          refine wp_region_noPanic ?_
          refine wp_region_held_drew (S := fun w' => w'.cell? ⟨bl, o + i * 3, none⟩ = some (.int .i32 sa) ∧ w'.cell? ⟨bl, o + i * 3 + 1, none⟩ = some (.int .i32 sb) ∧ w'.cell? ⟨bl, o + i * 3 + 2, none⟩ = some (.int .i64 sv)) (by kernel_rfl) hS0 (fun hHeld => ?_)
          clear hS0
          refine wpAnyH_takeD (i := 0) (d := some 56) (v := ?_) rfl rfl (by kernel_rfl) (by kernel_rfl) (by kernel_rfl) (fun _ _ _ h => h) (Or.inl ⟨by rfl, ?_⟩) (by assumption) ?_
          rotate_left
          · intro w hSw; (try dsimp only at hSw); go_simp; all_goals (with_reducible rfl)
          simp only [Act.put, List.setIfInBounds_toArray, List.set_cons_zero, List.set_cons_succ]
          refine wpAnyH_takeD (i := 1) (d := some 57) (v := ?_) rfl rfl (by kernel_rfl) (by kernel_rfl) (by kernel_rfl) (fun _ _ _ h => h) (Or.inl ⟨by rfl, ?_⟩) (by assumption) ?_
          rotate_left
          · intro w hSw; (try dsimp only at hSw); go_simp; all_goals (with_reducible rfl)
          simp only [Act.put, List.setIfInBounds_toArray, List.set_cons_zero, List.set_cons_succ]
          refine wpAnyH_takeD (i := 2) (d := some 58) (v := ?_) rfl rfl (by kernel_rfl) (by kernel_rfl) (by kernel_rfl) (fun _ _ _ h => h) (Or.inl ⟨by rfl, ?_⟩) (by assumption) ?_
          rotate_left
          · intro w hSw; (try dsimp only at hSw); go_simp; all_goals (with_reducible rfl)
          simp only [Act.put, List.setIfInBounds_toArray, List.set_cons_zero, List.set_cons_succ]
          refine wpAnyH_takeD (i := 3) (d := some 59) (v := ?_) rfl rfl (by kernel_rfl) (by kernel_rfl) (by kernel_rfl) (fun _ _ _ h => h) (Or.inl ⟨by rfl, ?_⟩) (by assumption) ?_
          rotate_left
          · intro w hSw; (try dsimp only at hSw); go_simp; all_goals (with_reducible rfl)
          simp only [Act.put, List.setIfInBounds_toArray, List.set_cons_zero, List.set_cons_succ]
          refine wpAnyH_takeD (i := 4) (d := some 60) (v := ?_) rfl rfl (by kernel_rfl) (by kernel_rfl) (by kernel_rfl) (fun _ _ _ h => h) (Or.inl ⟨by rfl, ?_⟩) (by assumption) ?_
          rotate_left
          · intro w hSw; (try dsimp only at hSw); go_simp; all_goals (with_reducible rfl)
          simp only [Act.put, List.setIfInBounds_toArray, List.set_cons_zero, List.set_cons_succ]
          refine wpAnyH_takeD (i := 5) (d := some 61) (v := ?_) rfl rfl (by kernel_rfl) (by kernel_rfl) (by kernel_rfl) (fun _ _ _ h => h) (Or.inl ⟨by rfl, ?_⟩) (by assumption) ?_
          rotate_left
          · intro w hSw; (try dsimp only at hSw); go_simp; all_goals (with_reducible rfl)
          simp only [Act.put, List.setIfInBounds_toArray, List.set_cons_zero, List.set_cons_succ]
          refine wpAnyH_takeD (i := 6) (d := some 62) (v := ?_) rfl rfl (by kernel_rfl) (by kernel_rfl) (by kernel_rfl) (fun _ _ _ h => h) (Or.inl ⟨by rfl, ?_⟩) (by assumption) ?_
          rotate_left
          · intro w hSw; (try dsimp only at hSw); go_simp; all_goals (with_reducible rfl)
          simp only [Act.put, List.setIfInBounds_toArray, List.set_cons_zero, List.set_cons_succ]
          refine wpAnyH_takeD (i := 7) (d := some 63) (v := ?_) rfl rfl (by kernel_rfl) (by kernel_rfl) (by kernel_rfl) (fun _ _ _ h => h) (Or.inl ⟨by rfl, ?_⟩) (by assumption) ?_
          rotate_left
          · intro w hSw; (try dsimp only at hSw); go_simp; all_goals (with_reducible rfl)
          simp only [Act.put, List.setIfInBounds_toArray, List.set_cons_zero, List.set_cons_succ]
          refine wpAnyH_takeD (i := 8) (d := some 64) (v := ?_) rfl rfl (by kernel_rfl) (by kernel_rfl) (by kernel_rfl) (fun _ _ _ h => h) (Or.inl ⟨by rfl, ?_⟩) (by assumption) ?_
          rotate_left
          · intro w hSw; (try dsimp only at hSw); go_simp; all_goals (with_reducible rfl)
          simp only [Act.put, List.setIfInBounds_toArray, List.set_cons_zero, List.set_cons_succ]
          refine wpAnyH_takeD (i := 9) (d := some 65) (v := ?_) rfl rfl (by kernel_rfl) (by kernel_rfl) (by kernel_rfl) (fun _ _ _ h => h) (Or.inl ⟨by rfl, ?_⟩) (by assumption) ?_
          rotate_left
          · intro w hSw; (try dsimp only at hSw); go_simp; all_goals (with_reducible rfl)
          simp only [Act.put, List.setIfInBounds_toArray, List.set_cons_zero, List.set_cons_succ]
          refine wpAnyH_takeD (i := 10) (d := some 66) (v := ?_) rfl rfl (by kernel_rfl) (by kernel_rfl) (by kernel_rfl) (fun _ _ _ h => h) (Or.inl ⟨by rfl, ?_⟩) (by assumption) ?_
          rotate_left
          · intro w hSw; (try dsimp only at hSw); go_simp; all_goals (with_reducible rfl)
          simp only [Act.put, List.setIfInBounds_toArray, List.set_cons_zero, List.set_cons_succ]
          refine wpAnyH_takeD (i := 11) (d := some 67) (v := ?_) rfl rfl (by kernel_rfl) (by kernel_rfl) (by kernel_rfl) (fun _ _ _ h => h) (Or.inl ⟨by rfl, ?_⟩) (by assumption) ?_
          rotate_left
          · intro w hSw; (try dsimp only at hSw); go_simp; all_goals (with_reducible rfl)
          simp only [Act.put, List.setIfInBounds_toArray, List.set_cons_zero, List.set_cons_succ]
          refine wpAnyH_takeD (i := 12) (d := some 68) (v := ?_) rfl rfl (by kernel_rfl) (by kernel_rfl) (by kernel_rfl) (fun _ _ _ h => h) (Or.inl ⟨by rfl, ?_⟩) (by assumption) ?_
          rotate_left
          · intro w hSw; (try dsimp only at hSw); go_simp; all_goals (with_reducible rfl)
          simp only [Act.put, List.setIfInBounds_toArray, List.set_cons_zero, List.set_cons_succ]
          refine wpAnyH_takeD (i := 13) (d := some 69) (v := ?_) rfl rfl (by kernel_rfl) (by kernel_rfl) (by kernel_rfl) (fun _ _ _ h => h) (Or.inl ⟨by rfl, ?_⟩) (by assumption) ?_
          rotate_left
          · intro w hSw; (try dsimp only at hSw); go_simp; all_goals (with_reducible rfl)
          simp only [Act.put, List.setIfInBounds_toArray, List.set_cons_zero, List.set_cons_succ]
          refine wpAnyH_takeD (i := 14) (d := some 70) (v := ?_) rfl rfl (by kernel_rfl) (by kernel_rfl) (by kernel_rfl) (fun _ _ _ h => h) (Or.inl ⟨by rfl, ?_⟩) (by assumption) ?_
          rotate_left
          · intro w hSw; (try dsimp only at hSw); go_simp; all_goals (with_reducible rfl)
          simp only [Act.put, List.setIfInBounds_toArray, List.set_cons_zero, List.set_cons_succ]
          refine wpAnyH_takeD (i := 15) (d := some 71) (v := ?_) rfl rfl (by kernel_rfl) (by kernel_rfl) (by kernel_rfl) (fun _ _ _ h => h) (Or.inl ⟨by rfl, ?_⟩) (by assumption) ?_
          rotate_left
          · intro w hSw; (try dsimp only at hSw); go_simp; all_goals (with_reducible rfl)
          simp only [Act.put, List.setIfInBounds_toArray, List.set_cons_zero, List.set_cons_succ]
          refine wpAnyH_ready (rs := [16]) (by kernel_rfl) (by simp) ?_
          refine AllReadyH.cons (o := _) rfl (fun K hK => ?_) AllReadyH.nil
          go_simp
          refine (ref_set rb rb 0 L v sa sb sv w5.drew HR6.out (by show rb ≤ w5.heap.size; omega) (by omega)).mono ?_
          rintro e w6 ⟨rfl, v', hR7, hk7, hat⟩
          have hnb : ¬ (bl = rb ∨ v.ownBlock = some bl) := by rintro (h | h); omega; have := hvl _ h; omega
          go_wp2_with fail
          have g0 := hk7.cell d0 hnb
          have g1 := hk7.cell d1 hnb
          have g2 := hk7.cell d2 hnb
          refine hK.out _ _ (And.intro g0 (And.intro g1 g2)) (fun hHeld => ?_)
          clear hK K d0 d1 d2
          try simp only [Act.put, List.setIfInBounds_toArray, List.set_cons_zero, List.set_cons_succ]
          have hk8 : Keep (fun j => rb ≤ j) w5.drew w6 := hk7.weaken (fun j _ h => by rcases h with h | h; omega; exact hvl j h)
          have HT7 := Lib.hid (HT6.out.keep hk8 (by omega) (by omega))
          have HR7 := Lib.hid hR7; clear hR7
          have hs67 : w5.heap.size ≤ w6.heap.size := hk7.size
          have HRb7 := Lib.hid (show Boxed w6 RB 4 (.bool false) from (hk8.block _ HRb6.out.lt (by show ¬ rb ≤ RB; omega)).trans HRb6.out)
          have HB7 := Lib.hid (HB6.out.trans (hk8.below HB6.out.size (fun j e => by omega)))
          clear hk7 hk8 hat hnb g0 g1 g2 hvl
          refine wpAnyH_done (by kernel_rfl) ?_ _
          refine NoPanic.normal ?_
          go_wp2
          go_roundw
          case rel => exact ⟨i + 1, _, _, v', by omega, by go_num, HT7.out, HR7.out, setF2_addV HFE.out sa sb sv, by have := addV_le L (sa, sb, sv); omega, by omega, HRb7.out, HB7.out⟩
          case measure => simp [intOf]; omega
        · obtain ⟨ia, rfl⟩ : ∃ q, q = i := ⟨i, rfl⟩
          have i2 : ¬ (ia : Int) < (ss.length : Int) := by omega
          have HT5 := Lib.hid hT; clear hT
          have HR5 := Lib.hid hR; clear hR
          have HRb5 := Lib.hid hRb; clear hRb
          have HB5 := Lib.hid hB; clear hB
          go_wp2_with fail
          refine (copy_any ba ma 0 f wr HT5.out).mono ?_
          rintro e w6 ⟨bb, mb, rfl, hbb, hmb, hTb, hb6⟩
          have HT6 := Lib.hid (HT5.out.keep (Keep.of_below (S := fun _ => False) hb6 rfl) (fun h => h) (fun h => h))
          have HTb6 := Lib.hid hTb; clear hTb
          have HR6 := Lib.hid (HR5.out.below hb6 rfl)
          have HRb6 := Lib.hid (show Boxed w6 RB 4 (.bool false) from (hb6.block _ HRb5.out.lt).trans HRb5.out)
          have HB6 := Lib.hid (HB5.out.trans (hb6.mono HB5.out.size))
          have hs6 := hb6.size
          clear HT5 HR5 HRb5 HB5 hb6
          go_wp2_with fail
          refine (all_any ba ma 0 f w6 HT6.out).mono ?_
          rintro e w7 ⟨rfl, lF, vl1, vv1, hRun, hA1, hA2, hA3, hA4, hb7⟩
          have hlen : lF.length ≤ 1114112 := hRun.toPieces.len
          have HT7 := Lib.hid (HT6.out.keep (Keep.of_below (S := fun _ => False) hb7 rfl) (fun h => h) (fun h => h))
          have HTb7 := Lib.hid (HTb6.out.keep (Keep.of_below (S := fun _ => False) hb7 rfl) (fun h => h) (fun h => h))
          have HR7 := Lib.hid (HR6.out.below hb7 rfl)
          have HRb7 := Lib.hid (show Boxed w7 RB 4 (.bool false) from (hb7.block _ HRb6.out.lt).trans HRb6.out)
          have HB7 := Lib.hid (HB6.out.trans (hb7.mono HB6.out.size))
          have hs7 := hb7.size
          obtain ⟨A0, hA0⟩ : ∃ q, w6.heap.size = q := ⟨_, rfl⟩
          rw [hA0] at hA1 hA2 hA3 hA4
          have hmA : ma < A0 := by rw [← hA0]; exact HT6.out.ltm
          rw [hA0]
          have hAl1 := hA1.lt
          have hAl2 := hA3.lt
          have hAo1 : ∀ j, vl1.ownBlock = some j → j < w7.heap.size := fun j e => (hA2.lt j e).2
          have hAo2 : ∀ j, vv1.ownBlock = some j → j < w7.heap.size := fun j e => (hA4.lt j e).2
          clear HT6 HTb6 HR6 HRb6 HB6 hb7 hA0
          have HA := Lib.hid (And.intro hA1 (And.intro hA2 (And.intro hA3 hA4))); clear hA1 hA2 hA3 hA4
          have HRun := Lib.hid hRun; clear hRun
          go_wp2_with fail
          refine (ref_copy rb rb 0 L v w7 HR7.out (by omega)).mono ?_
          rintro e w8 ⟨rb2, v2, rfl, hrb2, hR2, hb8⟩
          have HT8 := Lib.hid (HT7.out.keep (Keep.of_below (S := fun _ => False) hb8 rfl) (fun h => h) (fun h => h))
          have HTb8 := Lib.hid (HTb7.out.keep (Keep.of_below (S := fun _ => False) hb8 rfl) (fun h => h) (fun h => h))
          have HR8 := Lib.hid (HR7.out.below hb8 rfl)
          have HRb8 := Lib.hid (show Boxed w8 RB 4 (.bool false) from (hb8.block _ HRb7.out.lt).trans HRb7.out)
          have HB8 := Lib.hid (HB7.out.trans (hb8.mono HB7.out.size))
          have HA8 := Lib.hid (show Boxed w8 A0 64 vl1 ∧ w8.ownsRow A0 39 2 vl1 lF.length (flat cells2 lF) ∧ Boxed w8 (A0 + 1) 65 vv1 ∧ w8.ownsRow A0 3 1 vv1 lF.length (lF.map valP) from
            ⟨(hb8.block _ hAl1).trans HA.out.1, HA.out.2.1.kept (below_grown hb8) (by cases h : vl1.ownBlock <;> simp), (hb8.block _ hAl2).trans HA.out.2.2.1, HA.out.2.2.2.kept (below_grown hb8) (by cases h : vv1.ownBlock <;> simp)⟩)
          have HR28 := Lib.hid hR2; clear hR2
          obtain ⟨N7, hN7⟩ : ∃ q, w7.heap.size = q := ⟨_, rfl⟩
          have hs8 : N7 ≤ w8.heap.size := by rw [← hN7]; exact hb8.size
          have hv7 : ∀ j, v.ownBlock = some j → j < N7 := fun j e => by rw [← hN7]; exact (HR7.out.row.lt j e).2
          have hT7l := HT7.out.blk.lt
          have hT7m := HT7.out.ltm
          have hTb7l := HTb7.out.blk.lt
          have hTb7m := HTb7.out.ltm
          have hRb7l := HRb7.out.lt
          have hR7l := HR7.out.blk.lt
          rw [hN7] at hrb2 HR28 hAl1 hAl2 hAo1 hAo2 hT7l hT7m hTb7l hTb7m hRb7l hR7l hs7
          have hwN : w.heap.size ≤ N7 := by rw [← hN7]; exact HB7.out.size
          clear HT7 HTb7 HR7 HRb7 HB7 HA hb8 hN7
          go_wp2_with fail
          go_loopw [11] (fun s11 wr => ∃ (i : Nat) (g : Nat → Int) (L2 : List Pc) (v2 : Value), i ≤ mm.length ∧ s11 = .int .i64 i ∧ TabAt Try.prog wr ba ma 0 g ∧ RefAt wr N7 rb2 0 L2 v2 ∧ (∀ r, r < 1114112 → g r = refF 0 L2 r) ∧ L2.length ≤ 40 + i ∧ Keep (fun j => j = ma ∨ N7 ≤ j) w8 wr)
            (fun s11 _ => mm.length - (intOf s11).toNat)
          case atStart => exact ⟨0, f, L, _, Nat.zero_le _, rfl, HT8.out, HR28.out, HFE.out, by omega, Keep.refl _ _⟩
          case round =>
            obtain ⟨i, g, L2, v2, hi, rfl, hT, hR, hge, hL2, hk⟩ := hrel
            have HGE := Lib.hid hge; clear hge
            have hB := HB8.out.trans (hk.below HB8.out.size (fun j e => by omega))
            have hbs := hB.size
            have hks := hk.size
            by_cases hlt : i < mm.length
            · obtain ⟨bl, o, rfl, hc⟩ : ∃ bb o, ua = some ⟨bb, o, none⟩ ∧ ∀ j, j < mm.length → w.cell? ⟨bb, o + j * 3, none⟩ = some (.int .i32 (mm.getD j (0, 0, 0)).1) ∧ w.cell? ⟨bb, o + j * 3 + 1, none⟩ = some (.int .i32 (mm.getD j (0, 0, 0)).2.1) ∧ w.cell? ⟨bb, o + j * 3 + 2, none⟩ = some (.int .i64 (mm.getD j (0, 0, 0)).2.2) := by
                rcases HM3.out with h | ⟨bb, o, h, hc⟩
                · rw [h] at hlt; simp at hlt
                · exact ⟨bb, o, h, fun j hj => ⟨(hc j hj).1, (hc j hj).2.1, (hc j hj).2.2.1⟩⟩
              obtain ⟨c0, c1, c2⟩ := hc i hlt
              clear hc
              obtain ⟨sa, hsa⟩ : ∃ x, (mm.getD i (0, 0, 0)).1 = x := ⟨_, rfl⟩
              obtain ⟨sb, hsb⟩ : ∃ x, (mm.getD i (0, 0, 0)).2.1 = x := ⟨_, rfl⟩
              obtain ⟨sv, hsv⟩ : ∃ x, (mm.getD i (0, 0, 0)).2.2 = x := ⟨_, rfl⟩
              rw [hsa] at c0
              rw [hsb] at c1
              rw [hsv] at c2
              have hbw := cell_lt c0
              have d0 : wr.drew.cell? ⟨bl, o + i * 3, none⟩ = some (.int .i32 sa) := (hB.cell (p := ⟨bl, o + i * 3, none⟩) (cell_lt c0)).trans c0
              have d1 : wr.drew.cell? ⟨bl, o + i * 3 + 1, none⟩ = some (.int .i32 sb) := (hB.cell (p := ⟨bl, o + i * 3 + 1, none⟩) (cell_lt c1)).trans c1
              have d2 : wr.drew.cell? ⟨bl, o + i * 3 + 2, none⟩ = some (.int .i64 sv) := (hB.cell (p := ⟨bl, o + i * 3 + 2, none⟩) (cell_lt c2)).trans c2
              have i0 : (0 : Int) ≤ (i : Int) := by omega
              have i1 : (i : Int) < (mm.length : Int) := by omega
              have HT5 := Lib.hid hT.drew
              have HR5 := Lib.hid hR.drew
              have hvl : ∀ j, v2.ownBlock = some j → N7 ≤ j := fun j e => (hR.row.lt j e).1
              have HK5 := Lib.hid (hk.trans (Keep.of_drewN _ wr 1) (fun _ _ h => h)); clear hk hB hT hR
              clear c0 c1 c2
              go_wp2_with fail
              have hS0 : wr.drew.cell? ⟨bl, o + i * 3, none⟩ = some (.int .i32 sa) ∧ wr.drew.cell? ⟨bl, o + i * 3 + 1, none⟩ = some (.int .i32 sb) ∧ wr.drew.cell? ⟨bl, o + i * 3 + 2, none⟩ = some (.int .i64 sv) := ⟨d0, d1, d2⟩
              refine wp_region_noPanic ?_
              refine wp_region_held_drew (S := fun w' => w'.cell? ⟨bl, o + i * 3, none⟩ = some (.int .i32 sa) ∧ w'.cell? ⟨bl, o + i * 3 + 1, none⟩ = some (.int .i32 sb) ∧ w'.cell? ⟨bl, o + i * 3 + 2, none⟩ = some (.int .i64 sv)) (by kernel_rfl) hS0 (fun hHeld => ?_)
              clear hS0
              refine wpAnyH_takeD (i := 0) (d := some 91) (v := ?_) rfl rfl (by kernel_rfl) (by kernel_rfl) (by kernel_rfl) (fun _ _ _ h => h) (Or.inl ⟨by rfl, ?_⟩) (by assumption) ?_
              rotate_left
              · intro w hSw; (try dsimp only at hSw); go_simp; all_goals (with_reducible rfl)
              simp only [Act.put, List.setIfInBounds_toArray, List.set_cons_zero, List.set_cons_succ]
              refine wpAnyH_takeD (i := 1) (d := some 92) (v := ?_) rfl rfl (by kernel_rfl) (by kernel_rfl) (by kernel_rfl) (fun _ _ _ h => h) (Or.inl ⟨by rfl, ?_⟩) (by assumption) ?_
              rotate_left
              · intro w hSw; (try dsimp only at hSw); go_simp; all_goals (with_reducible rfl)
              simp only [Act.put, List.setIfInBounds_toArray, List.set_cons_zero, List.set_cons_succ]
              refine wpAnyH_takeD (i := 2) (d := some 93) (v := ?_) rfl rfl (by kernel_rfl) (by kernel_rfl) (by kernel_rfl) (fun _ _ _ h => h) (Or.inl ⟨by rfl, ?_⟩) (by assumption) ?_
              rotate_left
              · intro w hSw; (try dsimp only at hSw); go_simp; all_goals (with_reducible rfl)
              simp only [Act.put, List.setIfInBounds_toArray, List.set_cons_zero, List.set_cons_succ]
              refine wpAnyH_takeD (i := 3) (d := some 94) (v := ?_) rfl rfl (by kernel_rfl) (by kernel_rfl) (by kernel_rfl) (fun _ _ _ h => h) (Or.inl ⟨by rfl, ?_⟩) (by assumption) ?_
              rotate_left
              · intro w hSw; (try dsimp only at hSw); go_simp; all_goals (with_reducible rfl)
              simp only [Act.put, List.setIfInBounds_toArray, List.set_cons_zero, List.set_cons_succ]
              refine wpAnyH_takeD (i := 4) (d := some 95) (v := ?_) rfl rfl (by kernel_rfl) (by kernel_rfl) (by kernel_rfl) (fun _ _ _ h => h) (Or.inl ⟨by rfl, ?_⟩) (by assumption) ?_
              rotate_left
              · intro w hSw; (try dsimp only at hSw); go_simp; all_goals (with_reducible rfl)
              simp only [Act.put, List.setIfInBounds_toArray, List.set_cons_zero, List.set_cons_succ]
              refine wpAnyH_takeD (i := 5) (d := some 96) (v := ?_) rfl rfl (by kernel_rfl) (by kernel_rfl) (by kernel_rfl) (fun _ _ _ h => h) (Or.inl ⟨by rfl, ?_⟩) (by assumption) ?_
              rotate_left
              · intro w hSw; (try dsimp only at hSw); go_simp; all_goals (with_reducible rfl)
              simp only [Act.put, List.setIfInBounds_toArray, List.set_cons_zero, List.set_cons_succ]
              refine wpAnyH_takeD (i := 6) (d := some 97) (v := ?_) rfl rfl (by kernel_rfl) (by kernel_rfl) (by kernel_rfl) (fun _ _ _ h => h) (Or.inl ⟨by rfl, ?_⟩) (by assumption) ?_
              rotate_left
              · intro w hSw; (try dsimp only at hSw); go_simp; all_goals (with_reducible rfl)
              simp only [Act.put, List.setIfInBounds_toArray, List.set_cons_zero, List.set_cons_succ]
              refine wpAnyH_takeD (i := 7) (d := some 98) (v := ?_) rfl rfl (by kernel_rfl) (by kernel_rfl) (by kernel_rfl) (fun _ _ _ h => h) (Or.inl ⟨by rfl, ?_⟩) (by assumption) ?_
              rotate_left
              · intro w hSw; (try dsimp only at hSw); go_simp; all_goals (with_reducible rfl)
              simp only [Act.put, List.setIfInBounds_toArray, List.set_cons_zero, List.set_cons_succ]
              refine wpAnyH_takeD (i := 8) (d := some 99) (v := ?_) rfl rfl (by kernel_rfl) (by kernel_rfl) (by kernel_rfl) (fun _ _ _ h => h) (Or.inl ⟨by rfl, ?_⟩) (by assumption) ?_
              rotate_left
              · intro w hSw; (try dsimp only at hSw); go_simp; all_goals (with_reducible rfl)
              simp only [Act.put, List.setIfInBounds_toArray, List.set_cons_zero, List.set_cons_succ]
              refine wpAnyH_takeD (i := 9) (d := some 100) (v := ?_) rfl rfl (by kernel_rfl) (by kernel_rfl) (by kernel_rfl) (fun _ _ _ h => h) (Or.inl ⟨by rfl, ?_⟩) (by assumption) ?_
              rotate_left
              · intro w hSw; (try dsimp only at hSw); go_simp; all_goals (with_reducible rfl)
              simp only [Act.put, List.setIfInBounds_toArray, List.set_cons_zero, List.set_cons_succ]
              refine wpAnyH_takeD (i := 10) (d := some 101) (v := ?_) rfl rfl (by kernel_rfl) (by kernel_rfl) (by kernel_rfl) (fun _ _ _ h => h) (Or.inl ⟨by rfl, ?_⟩) (by assumption) ?_
              rotate_left
              · intro w hSw; (try dsimp only at hSw); go_simp; all_goals (with_reducible rfl)
              simp only [Act.put, List.setIfInBounds_toArray, List.set_cons_zero, List.set_cons_succ]
              refine wpAnyH_takeD (i := 11) (d := some 102) (v := ?_) rfl rfl (by kernel_rfl) (by kernel_rfl) (by kernel_rfl) (fun _ _ _ h => h) (Or.inl ⟨by rfl, ?_⟩) (by assumption) ?_
              rotate_left
              · intro w hSw; (try dsimp only at hSw); go_simp; all_goals (with_reducible rfl)
              simp only [Act.put, List.setIfInBounds_toArray, List.set_cons_zero, List.set_cons_succ]
              refine wpAnyH_takeD (i := 12) (d := some 103) (v := ?_) rfl rfl (by kernel_rfl) (by kernel_rfl) (by kernel_rfl) (fun _ _ _ h => h) (Or.inl ⟨by rfl, ?_⟩) (by assumption) ?_
              rotate_left
              · intro w hSw; (try dsimp only at hSw); go_simp; all_goals (with_reducible rfl)
              simp only [Act.put, List.setIfInBounds_toArray, List.set_cons_zero, List.set_cons_succ]
              refine wpAnyH_takeD (i := 13) (d := some 104) (v := ?_) rfl rfl (by kernel_rfl) (by kernel_rfl) (by kernel_rfl) (fun _ _ _ h => h) (Or.inl ⟨by rfl, ?_⟩) (by assumption) ?_
              rotate_left
              · intro w hSw; (try dsimp only at hSw); go_simp; all_goals (with_reducible rfl)
              simp only [Act.put, List.setIfInBounds_toArray, List.set_cons_zero, List.set_cons_succ]
              refine wpAnyH_takeD (i := 14) (d := some 105) (v := ?_) rfl rfl (by kernel_rfl) (by kernel_rfl) (by kernel_rfl) (fun _ _ _ h => h) (Or.inl ⟨by rfl, ?_⟩) (by assumption) ?_
              rotate_left
              · intro w hSw; (try dsimp only at hSw); go_simp; all_goals (with_reducible rfl)
              simp only [Act.put, List.setIfInBounds_toArray, List.set_cons_zero, List.set_cons_succ]
              refine wpAnyH_takeD (i := 15) (d := some 106) (v := ?_) rfl rfl (by kernel_rfl) (by kernel_rfl) (by kernel_rfl) (fun _ _ _ h => h) (Or.inl ⟨by rfl, ?_⟩) (by assumption) ?_
              rotate_left
              · intro w hSw; (try dsimp only at hSw); go_simp; all_goals (with_reducible rfl)
              simp only [Act.put, List.setIfInBounds_toArray, List.set_cons_zero, List.set_cons_succ]
              refine wpAnyH_ready (rs := [16]) (by kernel_rfl) (by simp) ?_
              refine AllReadyH.cons (o := _) rfl (fun K hK => ?_) AllReadyH.nil
              go_simp
              refine (set_anyZ ba ma 0 g sa sb sv wr.drew HT5.out).mono ?_
              rintro e w5 ⟨rfl, hT6, hk6⟩
              go_wp2_with fail
              have g0 := hk6.cell d0 (by show ¬ bl = ma; omega)
              have g1 := hk6.cell d1 (by show ¬ bl = ma; omega)
              have g2 := hk6.cell d2 (by show ¬ bl = ma; omega)
              refine hK.out _ _ (And.intro g0 (And.intro g1 g2)) (fun hHeld => ?_)
              clear hK K d0 d1 d2
              try simp only [Act.put, List.setIfInBounds_toArray, List.set_cons_zero, List.set_cons_succ]
              have HT6 := Lib.hid hT6.drew; clear hT6
              have HR6 := Lib.hid (HR5.out.keep hk6 (by show ¬ rb2 = ma; omega) (fun j e => by have := hvl j e; show ¬ j = ma; omega)).drew
              have hs56 : wr.heap.size ≤ w5.heap.size := hk6.size
              have HK6 := Lib.hid (HK5.out.trans (hk6.weaken (fun _ _ h => Or.inl h)) (fun _ _ h => h))
              clear hk6
              have d0 : w5.drew.cell? ⟨bl, o + i * 3, none⟩ = some (.int .i32 sa) := g0
              have d1 : w5.drew.cell? ⟨bl, o + i * 3 + 1, none⟩ = some (.int .i32 sb) := g1
              have d2 : w5.drew.cell? ⟨bl, o + i * 3 + 2, none⟩ = some (.int .i64 sv) := g2
              clear g0 g1 g2
              refine wpAnyH_done (by kernel_rfl) ?_ _
              refine NoPanic.normal ?_
              go_wp2_with fail
              have hS0 : w5.drew.cell? ⟨bl, o + i * 3, none⟩ = some (.int .i32 sa) ∧ w5.drew.cell? ⟨bl, o + i * 3 + 1, none⟩ = some (.int .i32 sb) ∧ w5.drew.cell? ⟨bl, o + i * 3 + 2, none⟩ = some (.int .i64 sv) := ⟨d0, d1, d2⟩
              refine wp_region_noPanic ?_
              refine wp_region_held_drew (S := fun w' => w'.cell? ⟨bl, o + i * 3, none⟩ = some (.int .i32 sa) ∧ w'.cell? ⟨bl, o + i * 3 + 1, none⟩ = some (.int .i32 sb) ∧ w'.cell? ⟨bl, o + i * 3 + 2, none⟩ = some (.int .i64 sv)) (by kernel_rfl) hS0 (fun hHeld => ?_)
              clear hS0
              refine wpAnyH_takeD (i := 0) (d := some 108) (v := ?_) rfl rfl (by kernel_rfl) (by kernel_rfl) (by kernel_rfl) (fun _ _ _ h => h) (Or.inl ⟨by rfl, ?_⟩) (by assumption) ?_
              rotate_left
              · intro w hSw; (try dsimp only at hSw); go_simp; all_goals (with_reducible rfl)
              simp only [Act.put, List.setIfInBounds_toArray, List.set_cons_zero, List.set_cons_succ]
              refine wpAnyH_takeD (i := 1) (d := some 109) (v := ?_) rfl rfl (by kernel_rfl) (by kernel_rfl) (by kernel_rfl) (fun _ _ _ h => h) (Or.inl ⟨by rfl, ?_⟩) (by assumption) ?_
              rotate_left
              · intro w hSw; (try dsimp only at hSw); go_simp; all_goals (with_reducible rfl)
              simp only [Act.put, List.setIfInBounds_toArray, List.set_cons_zero, List.set_cons_succ]
              refine wpAnyH_takeD (i := 2) (d := some 110) (v := ?_) rfl rfl (by kernel_rfl) (by kernel_rfl) (by kernel_rfl) (fun _ _ _ h => h) (Or.inl ⟨by rfl, ?_⟩) (by assumption) ?_
              rotate_left
              · intro w hSw; (try dsimp only at hSw); go_simp; all_goals (with_reducible rfl)
              simp only [Act.put, List.setIfInBounds_toArray, List.set_cons_zero, List.set_cons_succ]
              refine wpAnyH_takeD (i := 3) (d := some 111) (v := ?_) rfl rfl (by kernel_rfl) (by kernel_rfl) (by kernel_rfl) (fun _ _ _ h => h) (Or.inl ⟨by rfl, ?_⟩) (by assumption) ?_
              rotate_left
              · intro w hSw; (try dsimp only at hSw); go_simp; all_goals (with_reducible rfl)
              simp only [Act.put, List.setIfInBounds_toArray, List.set_cons_zero, List.set_cons_succ]
              refine wpAnyH_takeD (i := 4) (d := some 112) (v := ?_) rfl rfl (by kernel_rfl) (by kernel_rfl) (by kernel_rfl) (fun _ _ _ h => h) (Or.inl ⟨by rfl, ?_⟩) (by assumption) ?_
              rotate_left
              · intro w hSw; (try dsimp only at hSw); go_simp; all_goals (with_reducible rfl)
              simp only [Act.put, List.setIfInBounds_toArray, List.set_cons_zero, List.set_cons_succ]
              refine wpAnyH_takeD (i := 5) (d := some 113) (v := ?_) rfl rfl (by kernel_rfl) (by kernel_rfl) (by kernel_rfl) (fun _ _ _ h => h) (Or.inl ⟨by rfl, ?_⟩) (by assumption) ?_
              rotate_left
              · intro w hSw; (try dsimp only at hSw); go_simp; all_goals (with_reducible rfl)
              simp only [Act.put, List.setIfInBounds_toArray, List.set_cons_zero, List.set_cons_succ]
              refine wpAnyH_takeD (i := 6) (d := some 114) (v := ?_) rfl rfl (by kernel_rfl) (by kernel_rfl) (by kernel_rfl) (fun _ _ _ h => h) (Or.inl ⟨by rfl, ?_⟩) (by assumption) ?_
              rotate_left
              · intro w hSw; (try dsimp only at hSw); go_simp; all_goals (with_reducible rfl)
              simp only [Act.put, List.setIfInBounds_toArray, List.set_cons_zero, List.set_cons_succ]
              refine wpAnyH_takeD (i := 7) (d := some 115) (v := ?_) rfl rfl (by kernel_rfl) (by kernel_rfl) (by kernel_rfl) (fun _ _ _ h => h) (Or.inl ⟨by rfl, ?_⟩) (by assumption) ?_
              rotate_left
              · intro w hSw; (try dsimp only at hSw); go_simp; all_goals (with_reducible rfl)
              simp only [Act.put, List.setIfInBounds_toArray, List.set_cons_zero, List.set_cons_succ]
              refine wpAnyH_takeD (i := 8) (d := some 116) (v := ?_) rfl rfl (by kernel_rfl) (by kernel_rfl) (by kernel_rfl) (fun _ _ _ h => h) (Or.inl ⟨by rfl, ?_⟩) (by assumption) ?_
              rotate_left
              · intro w hSw; (try dsimp only at hSw); go_simp; all_goals (with_reducible rfl)
              simp only [Act.put, List.setIfInBounds_toArray, List.set_cons_zero, List.set_cons_succ]
              refine wpAnyH_takeD (i := 9) (d := some 117) (v := ?_) rfl rfl (by kernel_rfl) (by kernel_rfl) (by kernel_rfl) (fun _ _ _ h => h) (Or.inl ⟨by rfl, ?_⟩) (by assumption) ?_
              rotate_left
              · intro w hSw; (try dsimp only at hSw); go_simp; all_goals (with_reducible rfl)
              simp only [Act.put, List.setIfInBounds_toArray, List.set_cons_zero, List.set_cons_succ]
              refine wpAnyH_takeD (i := 10) (d := some 118) (v := ?_) rfl rfl (by kernel_rfl) (by kernel_rfl) (by kernel_rfl) (fun _ _ _ h => h) (Or.inl ⟨by rfl, ?_⟩) (by assumption) ?_
              rotate_left
              · intro w hSw; (try dsimp only at hSw); go_simp; all_goals (with_reducible rfl)
              simp only [Act.put, List.setIfInBounds_toArray, List.set_cons_zero, List.set_cons_succ]
              refine wpAnyH_takeD (i := 11) (d := some 119) (v := ?_) rfl rfl (by kernel_rfl) (by kernel_rfl) (by kernel_rfl) (fun _ _ _ h => h) (Or.inl ⟨by rfl, ?_⟩) (by assumption) ?_
              rotate_left
              · intro w hSw; (try dsimp only at hSw); go_simp; all_goals (with_reducible rfl)
              simp only [Act.put, List.setIfInBounds_toArray, List.set_cons_zero, List.set_cons_succ]
              refine wpAnyH_takeD (i := 12) (d := some 120) (v := ?_) rfl rfl (by kernel_rfl) (by kernel_rfl) (by kernel_rfl) (fun _ _ _ h => h) (Or.inl ⟨by rfl, ?_⟩) (by assumption) ?_
              rotate_left
              · intro w hSw; (try dsimp only at hSw); go_simp; all_goals (with_reducible rfl)
              simp only [Act.put, List.setIfInBounds_toArray, List.set_cons_zero, List.set_cons_succ]
              refine wpAnyH_takeD (i := 13) (d := some 121) (v := ?_) rfl rfl (by kernel_rfl) (by kernel_rfl) (by kernel_rfl) (fun _ _ _ h => h) (Or.inl ⟨by rfl, ?_⟩) (by assumption) ?_
              rotate_left
              · intro w hSw; (try dsimp only at hSw); go_simp; all_goals (with_reducible rfl)
              simp only [Act.put, List.setIfInBounds_toArray, List.set_cons_zero, List.set_cons_succ]
              refine wpAnyH_takeD (i := 14) (d := some 122) (v := ?_) rfl rfl (by kernel_rfl) (by kernel_rfl) (by kernel_rfl) (fun _ _ _ h => h) (Or.inl ⟨by rfl, ?_⟩) (by assumption) ?_
              rotate_left
              · intro w hSw; (try dsimp only at hSw); go_simp; all_goals (with_reducible rfl)
              simp only [Act.put, List.setIfInBounds_toArray, List.set_cons_zero, List.set_cons_succ]
              refine wpAnyH_takeD (i := 15) (d := some 123) (v := ?_) rfl rfl (by kernel_rfl) (by kernel_rfl) (by kernel_rfl) (fun _ _ _ h => h) (Or.inl ⟨by rfl, ?_⟩) (by assumption) ?_
              rotate_left
              · intro w hSw; (try dsimp only at hSw); go_simp; all_goals (with_reducible rfl)
              simp only [Act.put, List.setIfInBounds_toArray, List.set_cons_zero, List.set_cons_succ]
              refine wpAnyH_ready (rs := [16]) (by kernel_rfl) (by simp) ?_
              refine AllReadyH.cons (o := _) rfl (fun K hK => ?_) AllReadyH.nil
              go_simp
              refine (ref_set N7 rb2 0 L2 v2 sa sb sv w5.drew HR6.out (by show N7 ≤ w5.heap.size; omega) (by omega)).mono ?_
              rintro e w6 ⟨rfl, v', hR7, hk7, hat⟩
              have hnb : ¬ (bl = rb2 ∨ v2.ownBlock = some bl) := by rintro (h | h); omega; have := hvl _ h; omega
              go_wp2_with fail
              have g0 := hk7.cell d0 hnb
              have g1 := hk7.cell d1 hnb
              have g2 := hk7.cell d2 hnb
              refine hK.out _ _ (And.intro g0 (And.intro g1 g2)) (fun hHeld => ?_)
              clear hK K d0 d1 d2
              try simp only [Act.put, List.setIfInBounds_toArray, List.set_cons_zero, List.set_cons_succ]
              have hk8 : Keep (fun j => N7 ≤ j) w5.drew w6 := hk7.weaken (fun j _ h => by rcases h with h | h; omega; exact hvl j h)
              have HT7 := Lib.hid (HT6.out.keep hk8 (by omega) (by omega))
              have HR7 := Lib.hid hR7; clear hR7
              have hs67 : w5.heap.size ≤ w6.heap.size := hk7.size
              have HK7 := Lib.hid (HK6.out.trans (Keep.trans (Keep.of_drewN _ w5 1) (hk8.weaken (fun _ _ h => Or.inr h)) (fun _ _ h => h)) (fun _ _ h => h))
              clear hk7 hk8 hat hnb g0 g1 g2 hvl
              refine wpAnyH_done (by kernel_rfl) ?_ _
              refine NoPanic.normal ?_
              go_wp2
              go_roundw
              case rel => exact ⟨i + 1, _, _, v', by omega, by go_num, HT7.out, HR7.out, setF2_addV HGE.out sa sb sv, by have := addV_le L2 (sa, sb, sv); omega, HK7.out⟩
              case measure => simp [intOf]; omega
            · have i2 : ¬ (i : Int) < (mm.length : Int) := by omega
              have HT9 := Lib.hid hT; clear hT
              have HR29 := Lib.hid hR; clear hR
              have HTb9 := Lib.hid (HTb8.out.keep hk (by omega) (by omega))
              have HR9 := Lib.hid (HR8.out.keep hk (by omega) (fun j e => by have := hv7 j e; have := (HR8.out.row.lt j e).1; omega))
              have HRb9 := Lib.hid (show Boxed wr RB 4 (.bool false) from (hk.block _ HRb8.out.lt (by show ¬ (RB = ma ∨ N7 ≤ RB); omega)).trans HRb8.out)
              have HAo : ∀ j, (vl1.ownBlock = some j ∨ vv1.ownBlock = some j) → ¬ (j = ma ∨ N7 ≤ j) := fun j e => by
                rcases e with e | e
                · have h1 := hAo1 j e; have h2 := (HA8.out.2.1.lt j e).1; omega
                · have h1 := hAo2 j e; have h2 := (HA8.out.2.2.2.lt j e).1; omega
              have HALL9 := Lib.hid (show AllAt wr A0 (A0 + 1) lF from ⟨A0, vl1, vv1, (hk.block _ HA8.out.1.lt (by show ¬ (A0 = ma ∨ N7 ≤ A0); omega)).trans HA8.out.1, row_keep HA8.out.2.1 hk (fun j e => HAo j (.inl e)), (hk.block _ HA8.out.2.2.1.lt (by show ¬ (A0 + 1 = ma ∨ N7 ≤ A0 + 1); omega)).trans HA8.out.2.2.1, row_keep HA8.out.2.2.2 hk (fun j e => HAo j (.inr e))⟩)
              have HB9 := Lib.hid hB; clear hB
              clear HT8 HTb8 HR8 HRb8 HB8 HA8 HR28 hk HAo hAo1 hAo2
              go_wp2_with fail
              refine (ref_all rb rb 0 L v wr HR9.out (by omega)).mono ?_
              rintro e w10 ⟨l2, vo, rfl, hRun2, hrow, hb10⟩
              obtain rfl : lF = l2 := ((hRun2.congr fun r hr => HFE.out r hr).unique HRun.out).symm
              obtain ⟨k, hk1⟩ : ∃ k, lF.length = k := ⟨_, rfl⟩
              rw [hk1] at hrow hlen
              obtain ⟨ad, cap, rfl, hcc, hcm, had⟩ := ownsRow_shapeN hrow
              have HAD := Lib.hid had; clear had
              have HT10 := Lib.hid (HT9.out.keep (Keep.of_below (S := fun _ => False) hb10 rfl) (fun h => h) (fun h => h))
              have HTb10 := Lib.hid (HTb9.out.keep (Keep.of_below (S := fun _ => False) hb10 rfl) (fun h => h) (fun h => h))
              have HR10 := Lib.hid (HR9.out.below hb10 rfl)
              have HR210 := Lib.hid (HR29.out.below hb10 rfl)
              have HRb10 := Lib.hid (show Boxed w10 RB 4 (.bool false) from (hb10.block _ HRb9.out.lt).trans HRb9.out)
              have HALL10 := Lib.hid (HALL9.out.below hb10 rfl)
              have HB10 := Lib.hid (HB9.out.trans (hb10.mono HB9.out.size))
              obtain ⟨NW, hNW⟩ : ∃ q, wr.heap.size = q := ⟨_, rfl⟩
              rw [hNW] at hrow
              have HROW := Lib.hid hrow; clear hrow
              clear HT9 HTb9 HR9 HR29 HRb9 HALL9 HB9 hb10 hRun2
              go_wp2_with fail
              obtain ⟨wB, hwB⟩ : ∃ q, w10.heap.size = q := ⟨_, rfl⟩
              obtain ⟨W14, hW14⟩ : ∃ W14, (w10.alloc (.cells #[.slice ad k cap] 22)).alloc (.cells #[.int .i64 0] 3) = W14 := ⟨_, rfl⟩
              have hbA0 : Below w10.heap.size w10 W14 := by rw [← hW14]; exact ((Below.refl _ _).alloc (Nat.le_refl _) _).alloc (by simp) _
              have hkb : Boxed W14 (wB + 1) 3 (.int .i64 0) := by rw [← hW14, ← hwB]; have := Boxed.new (w10.alloc (.cells #[.slice ad k cap] 22)) 3 (.int .i64 0); simpa using this
              have hspb : Boxed W14 wB 22 (.slice ad k cap) := by rw [← hW14, ← hwB]; exact (Boxed.new _ _ _).kept (World.grownBy_alloc _ _ none) (by simp)
              have hs14 : W14.heap.size = wB + 2 := by rw [← hW14, ← hwB]; simp
              obtain ⟨kB, hkB⟩ : ∃ q, wB + 1 = q := ⟨_, rfl⟩
              have hspc := hspb.cell
              have hl1 := HRb10.out.lt
              have hl4 := HT10.out.blk.lt
              have hl5 := HT10.out.ltm
              have hl6 := HTb10.out.blk.lt
              have hl7 := HTb10.out.ltm
              have hl8 := HR10.out.blk.lt
              have hl9 := HR210.out.blk.lt
              have hvo : ∀ j, v.ownBlock = some j → j < w10.heap.size := fun j e => (HR10.out.row.lt j e).2
              have hvo2 : ∀ j, v2.ownBlock = some j → j < w10.heap.size := fun j e => (HR210.out.row.lt j e).2
              have hrbc : Boxed W14 RB 4 (.bool false) := (hbA0.block _ hl1).trans HRb10.out
              have hrowc : W14.ownsRow NW 33 3 (.slice ad k cap) k (flat cells3 lF) := HROW.out.kept (below_grown hbA0) (by cases h : (Value.slice ad k cap).ownBlock <;> simp)
              have hgl : ∀ j, (Value.slice ad k cap).ownBlock = some j → j < kB := fun j e => by have := (HROW.out.lt j e).2; omega
              have HROWc := Lib.hid hrowc; clear hrowc
              have HT14 := Lib.hid (HT10.out.keep (Keep.of_below (S := fun _ => False) hbA0 rfl) (fun h => h) (fun h => h))
              have HTb14 := Lib.hid (HTb10.out.keep (Keep.of_below (S := fun _ => False) hbA0 rfl) (fun h => h) (fun h => h))
              have HR14 := Lib.hid (HR10.out.below hbA0 rfl)
              have HR214 := Lib.hid (HR210.out.below hbA0 rfl)
              have HB14 := Lib.hid (HB10.out.trans (hbA0.mono HB10.out.size))
              rw [hW14]
              try rw [hwB]
              try rw [hkB]
              rw [hkB] at hkb
              rw [hwB] at hl1 hl4 hl5 hl6 hl7 hl8 hl9 hvo hvo2
              have hwk : w.heap.size ≤ kB := by have := HB10.out.size; omega
              have hskb : wB ≠ kB := by omega
              clear hW14 HROW
              refine (wpIn_wide (n := 9)).1 ?_
              refine wpIn_rangeFunc_ownH (F := Fence.wide) rfl (by omega) (gf := 30) (lb := #[.pointer (some ⟨A0, 0, none⟩), .pointer (some ⟨A0 + 1, 0, none⟩)]) rfl trivial (enters_of Try.func30 (by kernel_rfl) rfl)
                (all_stops 8 (by omega) A0 (A0 + 1) lF w10 HALL10.out (by rw [hk1]; exact hlen)) (fun h k => h.trans k) (belowN_b (by rw [hs14]; omega)) hbA0 (fun _ => rfl)
                (SameI kB W14)
                (fun _ pre _ => ¬ pre <+: lF)
                (sameI_from _ _ _ (Nat.le_refl _))
                (fun _ _ _ _ _ hs _ _ => hs)
                ⟨hkb, Keep.refl _ _⟩
                (fun x a' W => ∃ q, a' = { tmps := #[.slice va ss.length vc, .slice ua mm.length uc, undef, undef, .pointer (some ⟨RB, 0, none⟩), .pointer (some ⟨ba, 0, none⟩), .pointer (some ⟨rb, 0, none⟩), .int .i64 (ia : Int), .pointer (some ⟨bb, 0, none⟩), .func (.func 30) #[] #[.pointer (some ⟨A0, 0, none⟩), .pointer (some ⟨A0 + 1, 0, none⟩)], .pointer (some ⟨rb2, 0, none⟩), .int .i64 (i : Int), .pointer (some ⟨wB, 0, none⟩), .pointer (some ⟨kB, 0, none⟩), .pointer (some ⟨q, 0, none⟩), .pointer (some ⟨ba, 0, none⟩), .pointer (some ⟨ba, 0, none⟩), .bool false, .bool false, .slice va ss.length vc, .bool false, .bool false, .bool false, .slice ua mm.length uc, .bool false, .bool false, undef, undef, undef, undef, undef, .agg #[.int .i64 0, .slice none 0 0], .pointer (some ⟨rb, 0, none⟩), .int .i64 (ia : Int), .slice va ss.length vc, .int .i64 (ss.length : Int), .bool false, u37, u38, u39, u40, u41, u42, u43, u44, u45, u46, u47, u48, u49, u50, u51, u52, u53, u54, u55, u56, u57, u58, u59, u60, u61, u62, u63, u64, u65, u66, u67, u68, u69, u70, u71, u72, .pointer (some ⟨ba, 0, none⟩), .pointer (some ⟨bb, 0, none⟩), .pointer (some ⟨ba, 0, none⟩), .func (.func 30) #[] #[.pointer (some ⟨A0, 0, none⟩), .pointer (some ⟨A0 + 1, 0, none⟩)], .pointer (some ⟨rb, 0, none⟩), .pointer (some ⟨rb2, 0, none⟩), .pointer (some ⟨bb, 0, none⟩), .bool false, .bool false, .func (.func 30) #[] #[.pointer (some ⟨A0, 0, none⟩), .pointer (some ⟨A0 + 1, 0, none⟩)], .bool false, .bool false, .int .i64 (i : Int), .slice ua mm.length uc, .int .i64 (mm.length : Int), .bool false, u89, u90, u91, u92, u93, u94, u95, u96, u97, u98, u99, u100, u101, u102, u103, u104, u105, u106, u107, u108, u109, u110, u111, u112, u113, u114, u115, u116, u117, u118, u119, u120, u121, u122, u123, u124, .pointer (some ⟨rb, 0, none⟩), .slice ad k cap, .func (.func 30) #[] #[.pointer (some ⟨A0, 0, none⟩), .pointer (some ⟨A0 + 1, 0, none⟩)], .agg #[.int .i32 (x.1.val : Int), .int .i32 (x.2.1.val : Int)], .int .i64 x.2.2, undef, undef, undef, undef, undef, undef, undef, undef, undef, undef, undef, undef, undef, undef, undef, undef, undef, undef, undef, undef, undef, undef, undef, undef, undef, undef, undef, undef, undef, undef, undef, undef, undef, undef, undef], defers := [] } ∧ Blk W q #[.int .i32 (x.1.val : Int), .int .i32 (x.2.1.val : Int)] 39)
                (fun x a' => by rintro _ W W' row ⟨q, rfl, h1⟩ hg hr; exact ⟨q, rfl, blk_abides h1 hg (fun r e => (hr r e).2)⟩) ?assign ?body ?done ?stop
              case assign =>
                intro yl pre x W K hi hK
                unfold encP
                obtain ⟨⟨xa, hxa⟩, ⟨xb, hxb⟩, xv⟩ := x
                gi_wp2
                have hbn : Below W.heap.size W (W.alloc (.cells #[.int .i32 (xa : Int), .int .i32 (xb : Int)] 39)) := (Below.refl _ _).alloc (Nat.le_refl _) _
                obtain ⟨hi1, hi2⟩ := hi
                have h1W : w10.heap.size ≤ W.heap.size := Nat.le_trans hbA0.size hi2.size
                exact hK _ _ ((below_others hbn).from _) (hbn.mono h1W) ⟨hi1.alloc _, hi2.trans (Keep.of_below hbn rfl) (fun _ _ h => h)⟩ ⟨W.heap.size, rfl, Blk.new _ _ _⟩
              case body =>
                rintro yl pre x a' W hl0 ⟨rl, hrl0⟩ ⟨hnW, hkW⟩ ⟨q, rfl, hq⟩ hlenp
                dsimp only
                obtain ⟨j, hj⟩ : ∃ j, pre.length = j := ⟨_, rfl⟩
                rw [hj] at hnW hlenp
                have hjk : j < k := by rw [← hk1]; exact hlenp
                obtain ⟨g0, rfl⟩ : ∃ g, ad = some ⟨g, 0, none⟩ := by
                  rcases HAD.out with ⟨_, _, h0⟩ | ⟨g, h, _⟩
                  · omega
                  · exact ⟨g, h⟩
                have hgq := hgl g0 rfl
                obtain ⟨y, hy⟩ : ∃ y, lF[j] = y := ⟨_, rfl⟩
                have hgd : lF.getD j y = y := by rw [List.getD_eq_getElem?_getD, List.getElem?_eq_getElem hlenp, hy]; rfl
                have c0 : W.cell? ⟨g0, j * 3, none⟩ = some (.int .i32 (y.1.val : Int)) := hkW.cell (by
                  have := flat_at cells3_len y lF j 0 hlenp (by omega)
                  rw [HROWc.out.cellAt _ (by omega), ← Nat.add_zero (j * 3), this, hgd]; rfl) (by show ¬ g0 = kB; omega)
                have hcw : W.cell? ⟨wB, 0, none⟩ = some (.slice (some ⟨g0, 0, none⟩) k cap) := hkW.cell hspc (by show ¬ wB = kB; omega)
                have hcn := hnW.cell
                have hfn := hnW.frozen
                have q0 := hq.cell 0
                simp at q0
                have hrbW : Boxed W RB 4 (.bool false) := (hkW.block _ hrbc.lt (by show ¬ RB = kB; omega)).trans hrbc
                have hcr := hrbW.cell
                have hfr := hrbW.frozen
                have i0 : (0 : Int) ≤ (j : Int) := by omega
                have i1 : (j : Int) < (k : Int) := by omega
                have i2 : decide (k ≤ j) = false := decide_eq_false (by omega)
                have hne : x.1.val ≠ y.1.val → ¬ (pre ++ [x]) <+: lF := fun hne hp => by
                  obtain ⟨r, hr⟩ := hp
                  have h1 : lF[j]? = some x := by rw [← hr, ← hj]; simp
                  rw [List.getElem?_eq_getElem hlenp, hy] at h1
                  exact hne (by rw [Option.some.inj h1])
                have hsz1 : w10.heap.size ≤ W.heap.size := Nat.le_trans hbA0.size hkW.size
                obtain ⟨XA, hXA⟩ : ∃ X : Int, (x.1.val : Int) = X := ⟨_, rfl⟩
                obtain ⟨YA, hYA⟩ : ∃ X : Int, (y.1.val : Int) = X := ⟨_, rfl⟩
                rw [hXA] at q0
                rw [hYA] at c0
                rw [hXA]
                have hne2 : XA ≠ YA → ¬ (pre ++ [x]) <+: lF := fun h => hne (by omega)
                have HNE := Lib.hid hne2; clear hne hne2
                have HNW := Lib.hid hnW; clear hnW
                have HKW := Lib.hid hkW; clear hkW
                have HJ := Lib.hid hj; clear hj
                have HQ := Lib.hid hq; clear hq
                clear hgd hXA hYA hrbW hy
                gi_upto_region 24 with fail
                by_cases e1 : XA = YA
                · have e1' : (XA != YA) = false := by rw [e1]; simp
                  clear e1
                  refine wpIn_region_quiet_round rfl (by kernel_rfl) (by kernel_rfl) (by kernel_rfl) ?_
                  repeat (gi_big_quiet_step (fail))
                  refine wpQuietIn_nil ?_
                  intro _ hw'
                  obtain ⟨nq, hw''⟩ := hw'
                  subst hw''
                  gi_wp2
                  have hj := HJ.out
                  have hk5 : Keep (fun i => i = kB) W ((W.drewN nq).setCell ⟨kB, 0, none⟩ (.int .i64 ((j : Int) + 1))) := (Keep.of_drewN _ W nq).trans (Keep.of_setCell _ _ _ _) (fun _ _ h => h)
                  have hbx : Boxed (W.drewN nq) (kB) 3 (.int .i64 (j : Int)) := HNW.out
                  refine ownPostG_normal ⟨((⟨Nat.le_refl _, fun _ _ h _ => h⟩ : KeepsOthers W (W.drewN nq)).trans (KeepsOthers.setCell _ _ _)).from _, hk5.below hsz1 (fun i hi => by omega), ?_, HKW.out.trans hk5 (fun _ _ h => h)⟩
                  have := hbx.set (.int .i64 ((j : Int) + 1))
                  have e : ((pre ++ [x]).length : Int) = (j : Int) + 1 := by simp [hj]
                  rw [e]; exact this
                · have e1' : (XA != YA) = true := by simpa using e1
                  have hE := HNE.out e1
                  clear e1
                  refine wpIn_region_quiet_round rfl (by kernel_rfl) (by kernel_rfl) (by kernel_rfl) ?_
                  repeat (gi_big_quiet_step (fail))
                  refine wpQuietIn_nil ?_
                  intro _ hw'
                  obtain ⟨nq, hw''⟩ := hw'
                  subst hw''
                  gi_wp2
                  exact ownPostG_ret ⟨((⟨Nat.le_refl _, fun _ _ h _ => h⟩ : KeepsOthers W (W.drewN nq)).trans (KeepsOthers.setCell _ _ _)).from _, hE⟩
              case stop =>
                rintro D c pre W _ hp h _
                exact absurd hp h
              case done =>
                rintro D xs W2 hD hxs ⟨hnW, hkW⟩ hKD
                subst hxs
                rw [hk1] at hnW
                have HT15 := Lib.hid (HT14.out.keep hkW (by show ¬ ba = kB; omega) (by show ¬ ma = kB; omega))
                have HTb15 := Lib.hid (HTb14.out.keep hkW (by show ¬ bb = kB; omega) (by show ¬ mb = kB; omega))
                have HR15 := Lib.hid (HR14.out.keep hkW (by show ¬ rb = kB; omega) (fun j e => by have := hvo j e; show ¬ j = kB; omega))
                have HR215 := Lib.hid (HR214.out.keep hkW (by show ¬ rb2 = kB; omega) (fun j e => by have := hvo2 j e; show ¬ j = kB; omega))
                have HRB15 := Lib.hid (show Boxed W2 RB 4 (.bool false) from (hkW.block _ hrbc.lt (by show ¬ RB = kB; omega)).trans hrbc)
                have hs15 : W2.cell? ⟨wB, 0, none⟩ = some (.slice ad k cap) := hkW.cell hspc (by show ¬ wB = kB; omega)
                have hk15 := hnW.cell
                have HB15 := Lib.hid (HB14.out.trans (hkW.below HB14.out.size (fun j e => by omega)))
                have HD15 := Lib.hid hKD; clear hKD
                clear hnW hkW hspc hrbc hkb hspb HT14 HTb14 HR14 HR214 HB14
                gi_wp2_with fail
                go_wp2_with fail
                refine (same_any bb mb 0 f rb rb L v _ ss W2 HTb15.out HR15.out (HL.out.mono HB15.out rfl) (by omega) HFE.out).mono ?_
                rintro e w16 ⟨rfl, hb16⟩
                have HT16 := Lib.hid (HT15.out.keep (Keep.of_below (S := fun _ => False) hb16 rfl) (fun h => h) (fun h => h))
                have HR216 := Lib.hid (HR215.out.below hb16 rfl)
                have HRB16 := Lib.hid (show Boxed w16 RB 4 (.bool false) from (hb16.block _ HRB15.out.lt).trans HRB15.out)
                have HB16 := Lib.hid (HB15.out.trans (hb16.mono HB15.out.size))
                have HD16 := Lib.hid ((hb16.block D (Array.getElem?_eq_some_iff.1 HD15.out).1).trans HD15.out)
                clear hb16 HT15 HTb15 HR15 HR215 HRB15 HB15 HD15
                go_wp2_with fail
                refine (same_any ba ma 0 g N7 rb2 L2 v2 _ mm w16 HT16.out HR216.out (HM.out.mono HB16.out rfl) (by omega) HGE.out).mono ?_
                rintro e w17 ⟨rfl, hb17⟩
                have HRB17 := Lib.hid (show Boxed w17 RB 4 (.bool false) from (hb17.block _ HRB16.out.lt).trans HRB16.out)
                have HB17 := Lib.hid (HB16.out.trans (hb17.mono HB16.out.size))
                have HD17 := Lib.hid ((hb17.block D (Array.getElem?_eq_some_iff.1 HD16.out).1).trans HD16.out)
                clear hb17 HT16 HR216 HRB16 HB16 HD16
                go_wp2_with fail
                refine (awake_any w17).mono ?_
                rintro e w18 ⟨rfl, hb18⟩
                have HB18 := Lib.hid (HB17.out.trans (hb18.mono HB17.out.size))
                have HRB18 := Lib.hid (show Boxed w18 RB 4 (.bool false) from (hb18.block _ HRB17.out.lt).trans HRB17.out)
                have HD18 := Lib.hid ((hb18.block D (Array.getElem?_eq_some_iff.1 HD17.out).1).trans HD17.out)
                have hrc := HRB18.out.cell
                have hrf := HRB18.out.frozen
                clear hb18 HRB17 HB17 HD17
                go_wp2
                have hDr : D ≠ RB := fun e => by have := HD18.out; rw [e, show w18.heap[RB]? = _ from HRB18.out] at this; cases this
                have hrb19 := HRB18.out.set (.bool true)
                obtain ⟨V, hV⟩ : ∃ V, w18.setCell ⟨RB, 0, none⟩ (.bool true) = V := ⟨_, rfl⟩
                have hVD : V.heap[D]? = some (.deferred (some [])) := by rw [← hV]; exact (Below.heap_setCell _ _ _ _ hDr).trans HD18.out
                have hVB : Below w.heap.size w V := by rw [← hV]; exact HB18.out.setCell (p := ⟨RB, 0, none⟩) hRBw _
                rw [hV] at hrb19 ⊢
                refine ⟨by simp, .inl ⟨_, _, rfl, run_takeDeferred hVD, ?_⟩⟩
                have hrb20 : Boxed (V.putObj D (.deferred none)) RB 4 (.bool true) := (World.putObj_heap_other (fun e => hDr e.symm)).trans hrb19
                refine ⟨_, results_cell1 (a := ⟨RB, 0, none⟩) rfl rfl (by simp [loadVar, Try.isAgg4, go_sem, hrb20.cell]), rfl, ?_⟩
                exact hVB.trans (belowK_b (w := w) (Nat.le_refl _) V D (.deferred (some [])) (.deferred none) (by omega) hVD rfl rfl)

end Go.Proofs.Ytkpkcimghkmkfaa
