/-
  The law TrieParts, walked.
-/
import Derived.Test.YtkpkcimghkmkfaaTrY
namespace Go.Proofs.Ytkpkcimghkmkfaa
open Go.RowKit Go.Shelf
attribute [local go_sem] Oper.semAt_some

theorem set_parts (f : Nat → Int) (a c t : Nat) (v : Int) (h1 : a ≤ c) (h2 : c < t) : ∀ r, r < 1114112 → setR (setR f (c + 1) t v) a c v r = setR f a t v r := by
  intro r _
  unfold setR
  by_cases e : a ≤ r ∧ r ≤ c
  · rw [if_pos e, if_pos ⟨e.1, by omega⟩]
  · rw [if_neg e]
    by_cases e2 : c + 1 ≤ r ∧ r ≤ t
    · rw [if_pos e2, if_pos ⟨by omega, e2.2⟩]
    · rw [if_neg e2, if_neg (by omega)]

set_option maxRecDepth 100000 in
set_option maxHeartbeats 8000000 in
theorem parts_walk (vl : Value) (ss : List (Int × Int × Int)) (a t v r : Int) (w : World) (hl : RdSp w vl ss) (hr1 : -2147483648 ≤ r) (hr2 : r ≤ 2147483647)
    (ha1 : -2147483648 ≤ a) (ha2 : a ≤ 2147483647) (ht1 : -2147483648 ≤ t) (ht2 : t ≤ 2147483647) :
    Calls Try.prog 8 #[vl, .agg #[.int .i32 a, .int .i32 t, .int .i64 v], .int .i32 r] w fun e w' => e = .returned (.bool true) ∧ Below w.heap.size w w' := by
  have hnn := func_not_nil Try.underlying37
  have HNN := Lib.hid hnn
  obtain ⟨va, vc, rfl, hl1, hl2, hl3⟩ := id hl
  have HL := Lib.hid hl; clear hl
  have HL3 := Lib.hid hl3; clear hl3
  refine (callsIn_wide (n := 9)).1 ?_
  refine callsIn_of_wp_marks Try.func8 rfl trivial ?_ rfl
  simp only [Try.ntmps8, List.size_toArray, List.length_cons, List.length_nil, Nat.reduceAdd, Nat.reduceSub, Array.replicate_succ, Array.replicate_zero, List.push_toArray, List.append_toArray, List.nil_append, List.cons_append]
  refine wpIn_wide.2 ?_
  go_wp2_with fail
  obtain ⟨PB, hPB⟩ : ∃ q, w.heap.size = q := ⟨_, rfl⟩
  obtain ⟨W0, hW0⟩ : ∃ W0, (w.alloc (.cells #[.int .i32 a, .int .i32 t, .int .i64 v] 33)).alloc (.cells #[.bool false] 4) = W0 := ⟨_, rfl⟩
  have hB0 : Below w.heap.size w W0 := by rw [← hW0]; exact ((Below.refl _ _).alloc (Nat.le_refl _) _).alloc (by simp) _
  have hrb0 : Boxed W0 (PB + 1) 4 (.bool false) := by rw [← hW0, ← hPB]; have := Boxed.new (w.alloc (.cells #[.int .i32 a, .int .i32 t, .int .i64 v] 33)) 4 (.bool false); simpa using this
  have hx0 : Blk W0 PB #[.int .i32 a, .int .i32 t, .int .i64 v] 33 := by rw [← hW0, ← hPB]; exact (Blk.new _ _ _).grown (World.grownBy_alloc _ _ none) (by simp)
  rw [hW0]
  try rw [hPB]
  have HPB := Lib.hid hPB; clear hPB
  clear hW0
  have hRBw := hrb0.lt
  refine (new_any _ rfl 0 W0).mono ?_
  rintro e w1 ⟨ba, ma, rfl, hba, hma, hTa, hb1⟩
  have HTa := Lib.hid hTa; clear hTa
  have hbb1 := hB0.trans (hb1.mono hB0.size)
  have hrb1 : Boxed w1 (PB + 1) 4 (.bool false) := (hb1.block _ hrb0.lt).trans hrb0
  have hx1 := hx0.below hb1 hx0.lt
  go_wp2_with fail
  refine (wide_few _ ss w1 (HL.out.mono hbb1 rfl)).mono ?_
  rintro e w3 ⟨⟨t1, rfl, h40⟩, hb3⟩
  have hbb3 := hbb1.trans (hb3.mono hbb1.size)
  have hrb3 : Boxed w3 (PB + 1) 4 (.bool false) := (hb3.block _ hrb1.lt).trans hrb1
  have hx3 := hx1.below hb3 hx1.lt
  have hRw : w.heap.size ≤ PB + 1 := by rw [← HPB.out]; omega
  cases t1 with
  | true =>
    go_wp2_with fail
    refine (awake_any _).mono ?_
    rintro e w4 ⟨rfl, hb4⟩
    have hrb4 : Boxed w4 (PB + 1) 4 (.bool false) := (hb4.block _ hrb3.lt).trans hrb3
    have hrc := hrb4.cell
    have hrf := hrb4.frozen
    go_wp2
    have hrb5 := hrb4.set (.bool true)
    have hbb4 := hbb3.trans (hb4.mono hbb3.size)
    exact ⟨_, results_cell1 (a := ⟨PB + 1, 0, none⟩) rfl rfl (by simp [loadVar, Try.isAgg4, go_sem, hrb5.cell]), rfl, hbb4.setCell (p := ⟨PB + 1, 0, none⟩) hRw _⟩
  | false =>
    have hss := h40 rfl
    clear h40
    have HTa3 := Lib.hid (HTa.out.keep (Keep.of_below (S := fun _ => False) hb3 rfl) (fun h => h) (fun h => h))
    have z0 := hx3.cell 0
    have z1 := hx3.cell 1
    have z2 := hx3.cell 2
    simp at z0 z1 z2
    go_wp2_with fail
    obtain ⟨W3, hW3⟩ : ∃ W3, w3.alloc (.cells #[.int .i32 a, .int .i32 t, .int .i64 v] 33) = W3 := ⟨_, rfl⟩
    have hR3 : RdSp W3 (.slice (some ⟨w3.heap.size, 0, none⟩) 1 1) [(a, t, v)] := by
      rw [← hW3]
      refine ⟨_, 1, rfl, by simp, by omega, .inr ⟨w3.heap.size, 0, rfl, fun j hj => ?_⟩⟩
      obtain rfl : j = 0 := by simp at hj; exact hj
      exact ⟨by simp, by simp, by simp, ha1, ha2, ht1, ht2⟩
    have hb33 : Below w3.heap.size w3 W3 := by rw [← hW3]; exact (Below.refl _ _).alloc (Nat.le_refl _) _
    rw [hW3]
    clear hW3
    refine (wide_few _ _ _ hR3).mono ?_
    rintro e w4 ⟨⟨t2, rfl, _⟩, hb4⟩
    have hb34 := hb33.trans (hb4.mono hb33.size)
    have hbb4 := hbb3.trans (hb34.mono hbb3.size)
    have hrb4 : Boxed w4 (PB + 1) 4 (.bool false) := (hb34.block _ hrb3.lt).trans hrb3
    have hx4 := hx3.below hb34 hx3.lt
    have HTa4 := Lib.hid (HTa3.out.keep (Keep.of_below (S := fun _ => False) hb34 rfl) (fun h => h) (fun h => h))
    clear z0 z1 z2 hR3 hb33
    cases t2 with
    | true =>
      go_wp2_with fail
      refine (awake_any _).mono ?_
      rintro e w5 ⟨rfl, hb5⟩
      have hrb5 : Boxed w5 (PB + 1) 4 (.bool false) := (hb5.block _ hrb4.lt).trans hrb4
      have hrc := hrb5.cell
      have hrf := hrb5.frozen
      go_wp2
      have hrb6 := hrb5.set (.bool true)
      have hbb5 := hbb4.trans (hb5.mono hbb4.size)
      exact ⟨_, results_cell1 (a := ⟨PB + 1, 0, none⟩) rfl rfl (by simp [loadVar, Try.isAgg4, go_sem, hrb6.cell]), rfl, hbb5.setCell (p := ⟨PB + 1, 0, none⟩) hRw _⟩
    | false =>
      have hne2 : PB + 1 ≠ ba ∧ PB + 1 ≠ ma ∧ PB ≠ ma := by omega
      have hwa : w.heap.size ≤ ma := by have := hB0.size; omega
      clear HTa HTa3 hb1 hb3 hbb1 hbb3 hrb0 hrb1 hrb3 hx0 hx1 hx3 hb4 hb34 hB0
      have HB4 := Lib.hid hbb4; clear hbb4
      have HRB4 := Lib.hid hrb4; clear hrb4
      have HX4 := Lib.hid hx4; clear hx4
      go_wp2_with fail
      go_loopw [8] (fun s8 wr => ∃ (i : Nat) (f : Nat → Int), i ≤ ss.length ∧ s8 = .int .i64 i ∧ TabAt Try.prog wr ba ma 0 f ∧ Boxed wr (PB + 1) 4 (.bool false) ∧ Blk wr PB #[.int .i32 a, .int .i32 t, .int .i64 v] 33 ∧ Below w.heap.size w wr)
        (fun s8 _ => ss.length - (intOf s8).toNat)
      case atStart => exact ⟨0, fun _ => 0, Nat.zero_le _, rfl, HTa4.out, HRB4.out, HX4.out, HB4.out⟩
      case round =>
        obtain ⟨i, f, hi, rfl, hT, hRb, hXb, hB⟩ := hrel
        have hbs := hB.size
        by_cases hlt : i < ss.length
        · obtain ⟨bl, o, rfl, hc⟩ : ∃ bb o, va = some ⟨bb, o, none⟩ ∧ ∀ j, j < ss.length → w.cell? ⟨bb, o + j * 3, none⟩ = some (.int .i32 (ss.getD j (0, 0, 0)).1) ∧ w.cell? ⟨bb, o + j * 3 + 1, none⟩ = some (.int .i32 (ss.getD j (0, 0, 0)).2.1) ∧ w.cell? ⟨bb, o + j * 3 + 2, none⟩ = some (.int .i64 (ss.getD j (0, 0, 0)).2.2) := by
            rcases HL3.out with h | ⟨bb, o, h, hc⟩
            · rw [h] at hlt; simp at hlt
            · exact ⟨bb, o, h, fun j hj => ⟨(hc j hj).1, (hc j hj).2.1, (hc j hj).2.2.1⟩⟩
          obtain ⟨c0, c1, c2⟩ := hc i hlt
          clear hc
          obtain ⟨sa, hsa⟩ : ∃ x, (ss.getD i (0, 0, 0)).1 = x := ⟨_, rfl⟩
          obtain ⟨sb, hsb⟩ : ∃ x, (ss.getD i (0, 0, 0)).2.1 = x := ⟨_, rfl⟩
          obtain ⟨sv, hsv⟩ : ∃ x, (ss.getD i (0, 0, 0)).2.2 = x := ⟨_, rfl⟩
          rw [hsa] at c0
          rw [hsb] at c1
          rw [hsv] at c2
          have hbw := cell_lt c0
          have d0 : wr.drew.cell? ⟨bl, o + i * 3, none⟩ = some (.int .i32 sa) := (hB.cell (p := ⟨bl, o + i * 3, none⟩) (cell_lt c0)).trans c0
          have d1 : wr.drew.cell? ⟨bl, o + i * 3 + 1, none⟩ = some (.int .i32 sb) := (hB.cell (p := ⟨bl, o + i * 3 + 1, none⟩) (cell_lt c1)).trans c1
          have d2 : wr.drew.cell? ⟨bl, o + i * 3 + 2, none⟩ = some (.int .i64 sv) := (hB.cell (p := ⟨bl, o + i * 3 + 2, none⟩) (cell_lt c2)).trans c2
          have i0 : (0 : Int) ≤ (i : Int) := by omega
          have i1 : (i : Int) < (ss.length : Int) := by omega
          have HT5 := Lib.hid hT.drew
          have HRb5 := Lib.hid (show Boxed wr.drew (PB + 1) 4 (.bool false) from hRb)
          have HXb5 := Lib.hid (show Blk wr.drew PB #[.int .i32 a, .int .i32 t, .int .i64 v] 33 from hXb)
          have HB5 := Lib.hid hB.drew; clear hB hT hRb hXb
          clear c0 c1 c2
          go_wp2_with fail
          have hS0 : wr.drew.cell? ⟨bl, o + i * 3, none⟩ = some (.int .i32 sa) ∧ wr.drew.cell? ⟨bl, o + i * 3 + 1, none⟩ = some (.int .i32 sb) ∧ wr.drew.cell? ⟨bl, o + i * 3 + 2, none⟩ = some (.int .i64 sv) := ⟨d0, d1, d2⟩
          refine wp_region_noPanic ?_
          refine wp_region_held_drew (S := fun w' => w'.cell? ⟨bl, o + i * 3, none⟩ = some (.int .i32 sa) ∧ w'.cell? ⟨bl, o + i * 3 + 1, none⟩ = some (.int .i32 sb) ∧ w'.cell? ⟨bl, o + i * 3 + 2, none⟩ = some (.int .i64 sv)) (by kernel_rfl) hS0 (fun hHeld => ?_)
          clear hS0
          refine wpAnyH_takeD (i := 0) (d := some 41) (v := ?_) rfl rfl (by kernel_rfl) (by kernel_rfl) (by kernel_rfl) (fun _ _ _ h => h) (Or.inl ⟨by rfl, ?_⟩) (by assumption) ?_
          rotate_left
          · intro w hSw; (try dsimp only at hSw); go_simp; all_goals (with_reducible rfl)
          simp only [Act.put, List.setIfInBounds_toArray, List.set_cons_zero, List.set_cons_succ]
          refine wpAnyH_takeD (i := 1) (d := some 42) (v := ?_) rfl rfl (by kernel_rfl) (by kernel_rfl) (by kernel_rfl) (fun _ _ _ h => h) (Or.inl ⟨by rfl, ?_⟩) (by assumption) ?_
          rotate_left
          · intro w hSw; (try dsimp only at hSw); go_simp; all_goals (with_reducible rfl)
          simp only [Act.put, List.setIfInBounds_toArray, List.set_cons_zero, List.set_cons_succ]
          refine wpAnyH_takeD (i := 2) (d := some 43) (v := ?_) rfl rfl (by kernel_rfl) (by kernel_rfl) (by kernel_rfl) (fun _ _ _ h => h) (Or.inl ⟨by rfl, ?_⟩) (by assumption) ?_
          rotate_left
          · intro w hSw; (try dsimp only at hSw); go_simp; all_goals (with_reducible rfl)
          simp only [Act.put, List.setIfInBounds_toArray, List.set_cons_zero, List.set_cons_succ]
          refine wpAnyH_takeD (i := 3) (d := some 44) (v := ?_) rfl rfl (by kernel_rfl) (by kernel_rfl) (by kernel_rfl) (fun _ _ _ h => h) (Or.inl ⟨by rfl, ?_⟩) (by assumption) ?_
          rotate_left
          · intro w hSw; (try dsimp only at hSw); go_simp; all_goals (with_reducible rfl)
          simp only [Act.put, List.setIfInBounds_toArray, List.set_cons_zero, List.set_cons_succ]
          refine wpAnyH_takeD (i := 4) (d := some 45) (v := ?_) rfl rfl (by kernel_rfl) (by kernel_rfl) (by kernel_rfl) (fun _ _ _ h => h) (Or.inl ⟨by rfl, ?_⟩) (by assumption) ?_
          rotate_left
          · intro w hSw; (try dsimp only at hSw); go_simp; all_goals (with_reducible rfl)
          simp only [Act.put, List.setIfInBounds_toArray, List.set_cons_zero, List.set_cons_succ]
          refine wpAnyH_takeD (i := 5) (d := some 46) (v := ?_) rfl rfl (by kernel_rfl) (by kernel_rfl) (by kernel_rfl) (fun _ _ _ h => h) (Or.inl ⟨by rfl, ?_⟩) (by assumption) ?_
          rotate_left
          · intro w hSw; (try dsimp only at hSw); go_simp; all_goals (with_reducible rfl)
          simp only [Act.put, List.setIfInBounds_toArray, List.set_cons_zero, List.set_cons_succ]
          refine wpAnyH_takeD (i := 6) (d := some 47) (v := ?_) rfl rfl (by kernel_rfl) (by kernel_rfl) (by kernel_rfl) (fun _ _ _ h => h) (Or.inl ⟨by rfl, ?_⟩) (by assumption) ?_
          rotate_left
          · intro w hSw; (try dsimp only at hSw); go_simp; all_goals (with_reducible rfl)
          simp only [Act.put, List.setIfInBounds_toArray, List.set_cons_zero, List.set_cons_succ]
          refine wpAnyH_takeD (i := 7) (d := some 48) (v := ?_) rfl rfl (by kernel_rfl) (by kernel_rfl) (by kernel_rfl) (fun _ _ _ h => h) (Or.inl ⟨by rfl, ?_⟩) (by assumption) ?_
          rotate_left
          · intro w hSw; (try dsimp only at hSw); go_simp; all_goals (with_reducible rfl)
          simp only [Act.put, List.setIfInBounds_toArray, List.set_cons_zero, List.set_cons_succ]
          refine wpAnyH_takeD (i := 8) (d := some 49) (v := ?_) rfl rfl (by kernel_rfl) (by kernel_rfl) (by kernel_rfl) (fun _ _ _ h => h) (Or.inl ⟨by rfl, ?_⟩) (by assumption) ?_
          rotate_left
          · intro w hSw; (try dsimp only at hSw); go_simp; all_goals (with_reducible rfl)
          simp only [Act.put, List.setIfInBounds_toArray, List.set_cons_zero, List.set_cons_succ]
          refine wpAnyH_takeD (i := 9) (d := some 50) (v := ?_) rfl rfl (by kernel_rfl) (by kernel_rfl) (by kernel_rfl) (fun _ _ _ h => h) (Or.inl ⟨by rfl, ?_⟩) (by assumption) ?_
          rotate_left
          · intro w hSw; (try dsimp only at hSw); go_simp; all_goals (with_reducible rfl)
          simp only [Act.put, List.setIfInBounds_toArray, List.set_cons_zero, List.set_cons_succ]
          refine wpAnyH_takeD (i := 10) (d := some 51) (v := ?_) rfl rfl (by kernel_rfl) (by kernel_rfl) (by kernel_rfl) (fun _ _ _ h => h) (Or.inl ⟨by rfl, ?_⟩) (by assumption) ?_
          rotate_left
          · intro w hSw; (try dsimp only at hSw); go_simp; all_goals (with_reducible rfl)
          simp only [Act.put, List.setIfInBounds_toArray, List.set_cons_zero, List.set_cons_succ]
          refine wpAnyH_takeD (i := 11) (d := some 52) (v := ?_) rfl rfl (by kernel_rfl) (by kernel_rfl) (by kernel_rfl) (fun _ _ _ h => h) (Or.inl ⟨by rfl, ?_⟩) (by assumption) ?_
          rotate_left
          · intro w hSw; (try dsimp only at hSw); go_simp; all_goals (with_reducible rfl)
          simp only [Act.put, List.setIfInBounds_toArray, List.set_cons_zero, List.set_cons_succ]
          refine wpAnyH_takeD (i := 12) (d := some 53) (v := ?_) rfl rfl (by kernel_rfl) (by kernel_rfl) (by kernel_rfl) (fun _ _ _ h => h) (Or.inl ⟨by rfl, ?_⟩) (by assumption) ?_
          rotate_left
          · intro w hSw; (try dsimp only at hSw); go_simp; all_goals (with_reducible rfl)
          simp only [Act.put, List.setIfInBounds_toArray, List.set_cons_zero, List.set_cons_succ]
          refine wpAnyH_takeD (i := 13) (d := some 54) (v := ?_) rfl rfl (by kernel_rfl) (by kernel_rfl) (by kernel_rfl) (fun _ _ _ h => h) (Or.inl ⟨by rfl, ?_⟩) (by assumption) ?_
          rotate_left
          · intro w hSw; (try dsimp only at hSw); go_simp; all_goals (with_reducible rfl)
          simp only [Act.put, List.setIfInBounds_toArray, List.set_cons_zero, List.set_cons_succ]
          refine wpAnyH_takeD (i := 14) (d := some 55) (v := ?_) rfl rfl (by kernel_rfl) (by kernel_rfl) (by kernel_rfl) (fun _ _ _ h => h) (Or.inl ⟨by rfl, ?_⟩) (by assumption) ?_
          rotate_left
          · intro w hSw; (try dsimp only at hSw); go_simp; all_goals (with_reducible rfl)
          simp only [Act.put, List.setIfInBounds_toArray, List.set_cons_zero, List.set_cons_succ]
          refine wpAnyH_takeD (i := 15) (d := some 56) (v := ?_) rfl rfl (by kernel_rfl) (by kernel_rfl) (by kernel_rfl) (fun _ _ _ h => h) (Or.inl ⟨by rfl, ?_⟩) (by assumption) ?_
          rotate_left
          · intro w hSw; (try dsimp only at hSw); go_simp; all_goals (with_reducible rfl)
          simp only [Act.put, List.setIfInBounds_toArray, List.set_cons_zero, List.set_cons_succ]
          refine wpAnyH_ready (rs := [16]) (by kernel_rfl) (by simp) ?_
          refine AllReadyH.cons (o := _) rfl (fun K hK => ?_) AllReadyH.nil
          go_simp
          refine (set_anyZ ba ma 0 f sa sb sv wr.drew HT5.out).mono ?_
          rintro e w5 ⟨rfl, hT6, hk6⟩
          go_wp2_with fail
          have hS1 := And.intro (hk6.cell d0 (by show ¬ bl = ma; omega)) (And.intro (hk6.cell d1 (by show ¬ bl = ma; omega)) (hk6.cell d2 (by show ¬ bl = ma; omega)))
          refine hK.out _ _ hS1 (fun hHeld => ?_)
          clear hK K d0 d1 d2 hS1
          try simp only [Act.put, List.setIfInBounds_toArray, List.set_cons_zero, List.set_cons_succ]
          have HT6 := Lib.hid hT6; clear hT6
          have HB6 := Lib.hid (HB5.out.trans (hk6.below hbs (fun j e => by omega)))
          have HRb6 := Lib.hid (show Boxed w5 (PB + 1) 4 (.bool false) from (hk6.block _ HRb5.out.lt (by show ¬ PB + 1 = ma; omega)).trans HRb5.out)
          have HXb6 := Lib.hid (HXb5.out.keep hk6 (by show ¬ PB = ma; omega))
          clear hk6
          refine wpAnyH_done (by kernel_rfl) ?_ _
          refine NoPanic.normal ?_
          go_wp2
          go_roundw
          case rel => exact ⟨i + 1, _, by omega, by go_num, HT6.out, HRb6.out, HXb6.out, HB6.out⟩
          case measure => simp [intOf]; omega
        · have i2 : ¬ (i : Int) < (ss.length : Int) := by omega
          have HT5 := Lib.hid hT; clear hT
          have HRb5 := Lib.hid hRb; clear hRb
          have HXb5 := Lib.hid hXb; clear hXb
          have HB5 := Lib.hid hB; clear hB
          go_wp2_with fail
          refine (copy_any ba ma 0 f wr HT5.out).mono ?_
          rintro e w6 ⟨bb, mb, rfl, hbb, hmb, hTb, hb6⟩
          have HTb6 := Lib.hid hTb; clear hTb
          have htl := HT5.out.blk.lt
          have htm := HT5.out.ltm
          have hne1 : ba ≠ bb ∧ ba ≠ mb ∧ ma ≠ bb ∧ ma ≠ mb := by omega
          have HT6 := Lib.hid (HT5.out.keep (Keep.of_below (S := fun _ => False) hb6 rfl) (fun h => h) (fun h => h))
          have hrl := HRb5.out.lt
          have hxl := HXb5.out.lt
          have hne3 : PB + 1 ≠ mb ∧ PB ≠ mb := by omega
          have HRb6 := Lib.hid (show Boxed w6 (PB + 1) 4 (.bool false) from (hb6.block _ HRb5.out.lt).trans HRb5.out)
          have HXb6 := Lib.hid (HXb5.out.below hb6 HXb5.out.lt)
          have HB6 := Lib.hid (HB5.out.trans (hb6.mono HB5.out.size))
          have hwb : w.heap.size ≤ mb := by omega
          clear hb6 HT5 HRb5 HXb5 HB5
          have z0 := HXb6.out.cell 0
          have z1 := HXb6.out.cell 1
          have z2 := HXb6.out.cell 2
          simp at z0 z1 z2
          by_cases hok : 0 ≤ a ∧ t ≤ 1114111 ∧ a ≤ t ∧ a ≤ r ∧ r < t
          · obtain ⟨h1, h2, h3, h4, h5⟩ := hok
            have g1 : ¬ a < 0 := by omega
            have g2 : ¬ 1114111 < t := by omega
            have g3 : ¬ t < a := by omega
            have g4 : ¬ r < a := by omega
            have g5 : ¬ t ≤ r := by omega
            obtain ⟨A, rfl⟩ : ∃ A : Nat, a = A := ⟨a.toNat, by omega⟩
            obtain ⟨T, rfl⟩ : ∃ T : Nat, t = T := ⟨t.toNat, by omega⟩
            obtain ⟨C, rfl⟩ : ∃ C : Nat, r = C := ⟨r.toNat, by omega⟩
            go_wp2_with fail
            refine (set_ok _ rfl ba ma 0 f A T v w6 HT6.out (by omega) (by omega)).mono ?_
            rintro e w7 ⟨rfl, hT7, hk7⟩
            have HT7 := Lib.hid hT7; clear hT7
            have HTb7 := Lib.hid (HTb6.out.keep hk7 (by show ¬ bb = ma; omega) (by show ¬ mb = ma; omega))
            have HRb7 := Lib.hid (show Boxed w7 (PB + 1) 4 (.bool false) from (hk7.block _ HRb6.out.lt (by show ¬ PB + 1 = ma; omega)).trans HRb6.out)
            have HXb7 := Lib.hid (HXb6.out.keep hk7 (by show ¬ PB = ma; omega))
            have HB7 := Lib.hid (HB6.out.trans (hk7.below HB6.out.size (fun j e => by omega)))
            clear z0 z1 z2 hk7
            have z0 := HXb7.out.cell 0
            have z1 := HXb7.out.cell 1
            have z2 := HXb7.out.cell 2
            simp at z0 z1 z2
            have hw1 : IntKind.i32.wrap ((C : Int) + 1) = ((C + 1 : Nat) : Int) := by rw [IntWalk.i32_in _ (by omega)]; omega
            go_wp2_with fail
            refine (set_ok _ rfl bb mb 0 f (C + 1) T v w7 HTb7.out (by omega) (by omega)).mono ?_
            rintro e w8 ⟨rfl, hT8, hk8⟩
            have HTb8 := Lib.hid hT8; clear hT8
            have HT8 := Lib.hid (HT7.out.keep hk8 (by show ¬ ba = mb; omega) (by show ¬ ma = mb; omega))
            have HRb8 := Lib.hid (show Boxed w8 (PB + 1) 4 (.bool false) from (hk8.block _ HRb7.out.lt (by show ¬ PB + 1 = mb; omega)).trans HRb7.out)
            have HXb8 := Lib.hid (HXb7.out.keep hk8 (by show ¬ PB = mb; omega))
            have HB8 := Lib.hid (HB7.out.trans (hk8.below HB7.out.size (fun j e => by omega)))
            clear z0 z1 z2 hk8
            have z0 := HXb8.out.cell 0
            have z1 := HXb8.out.cell 1
            have z2 := HXb8.out.cell 2
            simp at z0 z1 z2
            go_wp2_with fail
            refine (set_ok _ rfl bb mb 0 _ A C v w8 HTb8.out (by omega) (by omega)).mono ?_
            rintro e w9 ⟨rfl, hT9, hk9⟩
            obtain ⟨g, hg⟩ : ∃ g, setR (setR f (C + 1) T v) A C v = g := ⟨_, rfl⟩
            obtain ⟨f2, hf2⟩ : ∃ f2, setR f A T v = f2 := ⟨_, rfl⟩
            have hge : ∀ r, r < 1114112 → g r = f2 r := by rw [← hg, ← hf2]; exact set_parts f A C T v (by omega) (by omega)
            rw [hg] at hT9
            rw [hf2] at HT8
            have HGE := Lib.hid hge; clear hge hg hf2
            have HTb9 := Lib.hid hT9; clear hT9
            have HT9 := Lib.hid (HT8.out.keep hk9 (by show ¬ ba = mb; omega) (by show ¬ ma = mb; omega))
            have HRb9 := Lib.hid (show Boxed w9 (PB + 1) 4 (.bool false) from (hk9.block _ HRb8.out.lt (by show ¬ PB + 1 = mb; omega)).trans HRb8.out)
            have HB9 := Lib.hid (HB8.out.trans (hk9.below HB8.out.size (fun j e => by omega)))
            clear z0 z1 z2 hk9 HXb8 HXb7 HXb6 HT8 HTb8 HT7 HTb7 HT6 HTb6 HRb6 HRb7 HRb8 HB6 HB7 HB8
            go_wp2_with fail
            refine (all_any ba ma 0 f2 w9 HT9.out).mono ?_
            rintro e w10 ⟨rfl, l, vl1, vv1, hRun, hA1, hA2, hA3, hA4, hb10⟩
            have hAll : AllAt w10 w9.heap.size (w9.heap.size + 1) l := ⟨_, vl1, vv1, hA1, hA2, hA3, hA4⟩
            have hlen : l.length ≤ 1114112 := hRun.toPieces.len
            have HT10 := Lib.hid (HT9.out.keep (Keep.of_below (S := fun _ => False) hb10 rfl) (fun h => h) (fun h => h))
            have HTb10 := Lib.hid (HTb9.out.keep (Keep.of_below (S := fun _ => False) hb10 rfl) (fun h => h) (fun h => h))
            have HRb10 := Lib.hid (show Boxed w10 (PB + 1) 4 (.bool false) from (hb10.block _ HRb9.out.lt).trans HRb9.out)
            have HB10 := Lib.hid (HB9.out.trans (hb10.mono HB9.out.size))
            obtain ⟨A0, hA0⟩ : ∃ q, w9.heap.size = q := ⟨_, rfl⟩
            rw [hA0] at hAll ⊢
            clear hA0 hA1 hA2 hA3 hA4 HT9 HTb9 HRb9 HB9 hb10
            have HRun := Lib.hid hRun; clear hRun
            go_wp2_with fail
            refine (all_any bb mb 0 g w10 HTb10.out).mono ?_
            rintro e w11 ⟨rfl, lB, vl2, vv2, hRunB, hA1, hA2, hA3, hA4, hb11⟩
            obtain rfl : lB = l := (hRunB.congr fun r hr => (HGE.out r hr).symm).unique HRun.out
            have HALL := Lib.hid (hAll.below hb11 rfl)
            have hAll2 : AllAt w11 w10.heap.size (w10.heap.size + 1) lB := ⟨_, vl2, vv2, hA1, hA2, hA3, hA4⟩
            have HT11 := Lib.hid (HT10.out.keep (Keep.of_below (S := fun _ => False) hb11 rfl) (fun h => h) (fun h => h))
            have HTb11 := Lib.hid (HTb10.out.keep (Keep.of_below (S := fun _ => False) hb11 rfl) (fun h => h) (fun h => h))
            have HRb11 := Lib.hid (show Boxed w11 (PB + 1) 4 (.bool false) from (hb11.block _ HRb10.out.lt).trans HRb10.out)
            have HB11 := Lib.hid (HB10.out.trans (hb11.mono HB10.out.size))
            obtain ⟨A1, hA1e⟩ : ∃ q, w10.heap.size = q := ⟨_, rfl⟩
            rw [hA1e] at hAll2 ⊢
            have HALL2 := Lib.hid hAll2; clear hAll2 hAll
            clear hA1e hA1 hA2 hA3 hA4 HT10 HTb10 HRb10 HB10 hb11 hRunB
            go_wp2_with fail
            -- RANGE1
            obtain ⟨RB, hRBe⟩ : ∃ q, PB + 1 = q := ⟨_, rfl⟩
            have HRB11 : Hid (Boxed w11 RB 4 (.bool false)) := by rw [← hRBe]; exact HRb11
            rw [hRBe] at hne2 hne3
            rw [hRBe]
            clear HRb11
            have hRBw2 : w.heap.size ≤ RB := by rw [← hRBe]; exact hRw
            have hRBl := HRB11.out.lt
            clear hRBe
            obtain ⟨NA, hNA⟩ : ∃ q, w11.heap.size = q := ⟨_, rfl⟩
            obtain ⟨W7, hW7⟩ : ∃ W7, w11.alloc (.cells #[.slice none 0 0] 22) = W7 := ⟨_, rfl⟩
            have hsp7 : Boxed W7 NA 22 (.slice none 0 0) := by rw [← hW7, ← hNA]; exact Boxed.new _ _ _
            have hb67 : Below w11.heap.size w11 W7 := by rw [← hW7]; exact (Below.refl _ _).alloc (Nat.le_refl _) _
            have hs7 : W7.heap.size = NA + 1 := by rw [← hW7, ← hNA]; simp
            have h6s := HB11.out.size
            rw [hW7, hNA]
            rw [hNA] at hb67
            clear hW7
            refine (wpIn_wide (n := 9)).1 ?_
            refine wpIn_rangeFunc_ownH (F := Fence.wide) rfl (by omega) (gf := 30) (lb := #[.pointer (some ⟨A0, 0, none⟩), .pointer (some ⟨A0 + 1, 0, none⟩)]) rfl trivial (enters_of Try.func30 (by kernel_rfl) rfl)
              (all_stops 8 (by omega) A0 (A0 + 1) lB w11 HALL.out hlen) (fun h k => h.trans k) (belowN_b (by rw [hs7, hNA]; omega)) (by rw [hNA]; exact hb67) (fun _ => rfl)
              (SpI NA NA w11)
              (fun _ pre _ => ¬ pre <+: lB)
              (spI_from NA NA _ w11 (by rw [hNA]; exact Nat.le_refl _) (by rw [hs7]; omega))
              (fun _ _ _ _ _ hs _ _ => hs)
              ⟨⟨_, hsp7, World.ownsRow_nil _ _ _ _, trivial⟩, hb67⟩
              (fun x a' W => ∃ q, a' = { tmps := #[.slice va ss.length vc, .agg #[.int .i32 (A : Int), .int .i32 (T : Int), .int .i64 v], .int .i32 (C : Int), undef, .pointer (some ⟨PB, 0, none⟩), undef, .pointer (some ⟨RB, 0, none⟩), .pointer (some ⟨ba, 0, none⟩), .int .i64 (i : Int), .pointer (some ⟨bb, 0, none⟩), .func (.func 30) #[] #[.pointer (some ⟨A0, 0, none⟩), .pointer (some ⟨A0 + 1, 0, none⟩)], .func (.func 30) #[] #[.pointer (some ⟨A1, 0, none⟩), .pointer (some ⟨A1 + 1, 0, none⟩)], .pointer (some ⟨NA, 0, none⟩), .pointer (some ⟨q, 0, none⟩), .int .i64 x.2.2, undef, undef, undef, .pointer (some ⟨ba, 0, none⟩), .pointer (some ⟨ba, 0, none⟩), .bool false, .bool false, .slice va ss.length vc, .bool false, .bool false, .bool false, .agg #[.int .i32 (A : Int), .int .i32 (T : Int), .int .i64 v], .slice (some ⟨w3.heap.size, 0, none⟩) 1 1, .bool false, .bool false, undef, undef, undef, undef, undef, .int .i64 (i : Int), .slice va ss.length vc, .int .i64 (ss.length : Int), .bool false, u39, u40, u41, u42, u43, u44, u45, u46, u47, u48, u49, u50, u51, u52, u53, u54, u55, u56, u57, .pointer (some ⟨ba, 0, none⟩), .pointer (some ⟨bb, 0, none⟩), .pointer (some ⟨bb, 0, none⟩), .bool false, .pointer (some ⟨PB, 0, none⟩), .int .i32 (A : Int), .bool (decide ((A : Int) < 0)), .bool (decide ((A : Int) < 0)), .pointer (some ⟨PB, 1, none⟩), .int .i32 (T : Int), .bool (decide (1114111 < (T : Int))), .bool (decide ((A : Int) < 0) || decide (1114111 < (T : Int))), .bool (decide ((A : Int) < 0) || decide (1114111 < (T : Int))), .pointer (some ⟨PB, 1, none⟩), .int .i32 (T : Int), .pointer (some ⟨PB, 0, none⟩), .int .i32 (A : Int), .bool false, .bool (decide ((A : Int) < 0) || decide (1114111 < (T : Int))), .bool (decide ((A : Int) < 0) || decide (1114111 < (T : Int))), .int .i32 (C : Int), .pointer (some ⟨PB, 0, none⟩), .int .i32 (A : Int), .bool false, .bool (decide ((A : Int) < 0) || decide (1114111 < (T : Int))), .bool (decide ((A : Int) < 0) || decide (1114111 < (T : Int))), .int .i32 (C : Int), .pointer (some ⟨PB, 1, none⟩), .int .i32 (T : Int), .bool false, .bool (decide ((A : Int) < 0) || decide (1114111 < (T : Int))), undef, .pointer (some ⟨ba, 0, none⟩), .pointer (some ⟨PB, 0, none⟩), .int .i32 (A : Int), .pointer (some ⟨PB, 1, none⟩), .int .i32 (T : Int), .pointer (some ⟨PB, 2, none⟩), .int .i64 v, .int .i64 0, .bool false, .bool false, .pointer (some ⟨bb, 0, none⟩), .int .i32 (C : Int), .int .i32 ((C : Int) + 1), .pointer (some ⟨PB, 1, none⟩), .int .i32 (T : Int), .pointer (some ⟨PB, 2, none⟩), .int .i64 v, .int .i64 0, .bool false, .bool false, .bool false, .pointer (some ⟨bb, 0, none⟩), .pointer (some ⟨PB, 0, none⟩), .int .i32 (A : Int), .int .i32 (C : Int), .pointer (some ⟨PB, 2, none⟩), .int .i64 v, .int .i64 0, .bool false, .bool false, .pointer (some ⟨ba, 0, none⟩), .func (.func 30) #[] #[.pointer (some ⟨A0, 0, none⟩), .pointer (some ⟨A0 + 1, 0, none⟩)], .pointer (some ⟨bb, 0, none⟩), .func (.func 30) #[] #[.pointer (some ⟨A1, 0, none⟩), .pointer (some ⟨A1 + 1, 0, none⟩)], .func (.func 30) #[] #[.pointer (some ⟨A0, 0, none⟩), .pointer (some ⟨A0 + 1, 0, none⟩)], .bool false, .bool false, .func (.func 30) #[] #[.pointer (some ⟨A1, 0, none⟩), .pointer (some ⟨A1 + 1, 0, none⟩)], .bool false, .bool false, .func (.func 30) #[] #[.pointer (some ⟨A0, 0, none⟩), .pointer (some ⟨A0 + 1, 0, none⟩)], .agg #[.int .i32 (x.1.val : Int), .int .i32 (x.2.1.val : Int)], .int .i64 x.2.2, undef, undef, undef, undef, undef, undef, undef, undef, undef, undef, undef, undef, undef, undef, undef, undef, undef, undef, undef, undef, undef, undef, undef, undef, undef, undef, undef, undef, undef, undef, undef, undef, undef, undef, undef, undef, undef, undef, undef, undef, undef, undef, undef, undef, undef, undef, undef, undef, undef, undef, undef, undef, undef, undef, undef, undef, undef, undef, undef, undef, undef], defers := [] } ∧ Blk W q #[.int .i32 (x.1.val : Int), .int .i32 (x.2.1.val : Int)] 39)
              (fun x a' => by rintro _ W W' row ⟨q, rfl, h1⟩ hg hr; exact ⟨q, rfl, blk_abides h1 hg (fun r e => (hr r e).2)⟩) ?assign ?body ?done ?stop
            case assign =>
              intro yl pre x W K hi hK
              unfold encP
              obtain ⟨⟨xa, hxa⟩, ⟨xb, hxb⟩, xv⟩ := x
              gi_wp2
              have hbn : Below W.heap.size W (W.alloc (.cells #[.int .i32 (xa : Int), .int .i32 (xb : Int)] 39)) := (Below.refl _ _).alloc (Nat.le_refl _) _
              obtain ⟨⟨v, hi1, hi2, _⟩, hi3⟩ := hi
              have h1W : w11.heap.size ≤ W.heap.size := hi3.size
              exact hK _ _ ((below_others hbn).from _) (hbn.mono h1W) ⟨⟨v, hi1.alloc _, hi2.alloc _, trivial⟩, hi3.trans (hbn.mono (by rw [← hNA]; exact h1W))⟩ ⟨W.heap.size, rfl, Blk.new _ _ _⟩
            case body =>
              rintro yl pre x a' W hl0 ⟨rl, hrl0⟩ ⟨⟨v, hv, hrow, _⟩, hB⟩ ⟨q, rfl, hq⟩ hlenp
              dsimp only
              obtain ⟨n, hn⟩ : ∃ n, pre.length = n := ⟨_, rfl⟩
              rw [hn] at hrow hlenp
              obtain ⟨ad, cap, rfl, hc1, hc2, had⟩ := ownsRow_shapeN hrow
              have hcv := hv.cell
              have q0 := hq.cell 0
              have q1 := hq.cell 1
              simp at q0 q1
              have hsc : NA ≤ W.heap.size := by have := hB.size; omega
              have HV := Lib.hid hv; clear hv
              have HROW := Lib.hid hrow; clear hrow
              have HBW := Lib.hid hB; clear hB
              have HQ := Lib.hid hq; clear hq
              have HN := Lib.hid hn; clear hn had
              obtain ⟨XA, hXA⟩ : ∃ X : Int, (x.1.val : Int) = X := ⟨_, rfl⟩
              obtain ⟨XB, hXB⟩ : ∃ X : Int, (x.2.1.val : Int) = X := ⟨_, rfl⟩
              obtain ⟨XV, hXV⟩ : ∃ X : Int, x.2.2 = X := ⟨_, rfl⟩
              rw [hXA] at q0
              rw [hXB] at q1
              rw [hXA, hXB, hXV]
              have HXA := Lib.hid hXA; clear hXA
              have HXB := Lib.hid hXB; clear hXB
              have HXV := Lib.hid hXV; clear hXV
              obtain ⟨W1, hW1⟩ : ∃ W1, W.alloc (.cells #[.int .i32 XA, .int .i32 XB, .int .i64 XV] 33) = W1 := ⟨_, rfl⟩
              have hp1 : Blk W1 W.heap.size #[.int .i32 XA, .int .i32 XB, .int .i64 XV] 33 := by rw [← hW1]; exact Blk.new _ _ _
              have hr1 : W1.ownsRow NA 33 3 (.slice ad n cap) n (flat cells3 pre) := by rw [← hW1]; exact HROW.out.alloc _
              have hbz : NA ≤ W1.heap.size := by rw [← hW1]; simp; omega
              have hone : ∀ u' ∈ (#[.int .i32 XA, .int .i32 XB, .int .i64 XV] : Array Value).toList, u'.oneCell' = true := by simp [Value.oneCell']
              have hby : (n + 1) * 16 ≤ 140737488355328 := by omega
              have hky : n ≤ 140737488355328 := by omega
              have HP1 := Lib.hid hp1; clear hp1
              have HR1 := Lib.hid hr1; clear hr1
              have HONE := Lib.hid hone; clear hone
              have HW1 := Lib.hid hW1
              have ES := Lib.hid elemS
              gi_wp2_with (first
                | (gi_at_builtin; refine wpListIn_appendN ES.out rfl _ _ rfl NA (.slice ad n cap) n (flat cells3 pre) rfl HR1.out W.heap.size #[.int .i32 XA, .int .i32 XB, .int .i64 XV] 33 HP1.out rfl rfl HONE.out hby hky hbz ?_; intro g' cap' w2' hown' hgrow
                   obtain ⟨p1, p2, p3, p4, p5⟩ := HV.out.appended (by decide) HROW.out hsc (Nat.le_refl _) hown' (HW1.out.symm ▸ hgrow)
                   have hc1 := p1.cell
                   have hf1 := p1.frozen
                   go_frame)
                | gi_in)
              have hlen1 : (pre ++ [x]).length = n + 1 := by simp [HN.out]
              have hcx : cells3 x = (#[.int .i32 XA, .int .i32 XB, .int .i64 XV] : Array Value).toList := by unfold cells3; rw [HXA.out, HXB.out, HXV.out]
              refine ownPostG_normal ⟨p4.from _, p5, ⟨⟨_, p2, ?_, trivial⟩, HBW.out.trans p5⟩⟩
              rw [hlen1, flat_snoc, hcx]
              exact p3
            case stop =>
              rintro D c pre W _ hp h _
              exact absurd hp h
            case done =>
              rintro D xs W13 hD hxs ⟨⟨v, hv, hrow, _⟩, hB⟩ hK
              subst hxs
              obtain ⟨n, hn⟩ : ∃ n, xs.length = n := ⟨_, rfl⟩
              rw [hn] at hrow hlen
              obtain ⟨ad, cap, rfl, hc1, hc2, had⟩ := ownsRow_shapeN hrow
              have hcv := hv.cell
              have HT13 := Lib.hid (HT11.out.keep (Keep.of_below (S := fun _ => False) hB (by rw [hNA])) (fun h => h) (fun h => h))
              have HTb13 := Lib.hid (HTb11.out.keep (Keep.of_below (S := fun _ => False) hB (by rw [hNA])) (fun h => h) (fun h => h))
              have HRB13 := Lib.hid (show Boxed W13 RB 4 (.bool false) from (hB.block _ (by rw [← hNA]; exact HRB11.out.lt)).trans HRB11.out)
              have HALL3 := Lib.hid (HALL2.out.below hB (by rw [hNA]))
              have HB13 := Lib.hid (HB11.out.trans (hB.mono (by rw [← hNA]; exact h6s)))
              have HROW13 := Lib.hid hrow; clear hrow
              have HV13 := Lib.hid hv; clear hv
              have HK13 := Lib.hid hK; clear hK
              have HN := Lib.hid hn; clear hn
              have HAD := Lib.hid had; clear had
              have hNW : NA ≤ W13.heap.size := by have := hB.size; omega
              clear HT11 HTb11 HRB11 HALL2 HB11 hB
              gi_wp2_with fail
              go_wp2_with fail
              obtain ⟨kB, hkB⟩ : ∃ q, W13.heap.size = q := ⟨_, rfl⟩
              obtain ⟨W14, hW14⟩ : ∃ W14, W13.alloc (.cells #[.int .i64 0] 3) = W14 := ⟨_, rfl⟩
              have hbA0 : Below W13.heap.size W13 W14 := by rw [← hW14]; exact (Below.refl _ _).alloc (Nat.le_refl _) _
              have hkb : Boxed W14 kB 3 (.int .i64 0) := by rw [← hW14, ← hkB]; exact Boxed.new _ _ _
              have hs14 : W14.heap.size = kB + 1 := by rw [← hW14, ← hkB]; simp
              have hl2 := HV13.out.lt
              have hl3 := HRB13.out.lt
              have hl4 := HT13.out.blk.lt
              have hl5 := HT13.out.ltm
              have hl6 := HTb13.out.blk.lt
              have hl7 := HTb13.out.ltm
              have hspc := (hbA0.cell (p := ⟨NA, 0, none⟩) hl2).trans HV13.out.cell
              have hrbc : Boxed W14 RB 4 (.bool false) := (hbA0.block _ hl3).trans HRB13.out
              have hrowc : W14.ownsRow NA 33 3 (.slice ad n cap) n (flat cells3 xs) := HROW13.out.kept (below_grown hbA0) (by cases h : (Value.slice ad n cap).ownBlock <;> simp)
              have hgl : ∀ j, (Value.slice ad n cap).ownBlock = some j → j < kB := fun j e => by rw [← hkB]; exact (HROW13.out.lt j e).2
              have HROWc := Lib.hid hrowc; clear hrowc
              have HT14 := Lib.hid (HT13.out.keep (Keep.of_below (S := fun _ => False) hbA0 rfl) (fun h => h) (fun h => h))
              have HTb14 := Lib.hid (HTb13.out.keep (Keep.of_below (S := fun _ => False) hbA0 rfl) (fun h => h) (fun h => h))
              have HK14 := Lib.hid ((hbA0.block _ (Array.getElem?_eq_some_iff.1 HK13.out).1).trans HK13.out)
              have HB14 := Lib.hid (HB13.out.trans (hbA0.mono HB13.out.size))
              have hk1 : xs.length = n := HN.out
              have hwB : w.heap.size ≤ kB := by rw [← hkB]; exact HB13.out.size
              rw [hW14]
              try rw [hkB]
              rw [hkB] at hl2 hl3 hl4 hl5 hl6 hl7
              clear hW14 hcv
              refine (wpIn_wide (n := 9)).1 ?_
              refine wpIn_rangeFunc_ownH (F := Fence.wide) rfl (by omega) (gf := 30) (lb := #[.pointer (some ⟨A1, 0, none⟩), .pointer (some ⟨A1 + 1, 0, none⟩)]) rfl trivial (enters_of Try.func30 (by kernel_rfl) rfl)
                (all_stops 8 (by omega) A1 (A1 + 1) xs W13 HALL3.out (by rw [hk1]; exact hlen)) (fun h k => h.trans k) (belowN_b (by rw [hs14]; omega)) hbA0 (fun _ => rfl)
                (fun pre W => SameI kB W14 pre W ∧ pre = xs.take pre.length)
                (fun _ pre _ => ¬ pre <+: xs)
                (OwnFrom.and (sameI_from _ _ _ (Nat.le_refl _)) (pre_from _ _))
                (fun _ _ _ _ _ hs _ _ => hs)
                ⟨⟨hkb, Keep.refl _ _⟩, by simp⟩
                (fun x a' W => ∃ q, a' = { tmps := #[.slice va ss.length vc, .agg #[.int .i32 (A : Int), .int .i32 (T : Int), .int .i64 v], .int .i32 (C : Int), undef, .pointer (some ⟨PB, 0, none⟩), undef, .pointer (some ⟨RB, 0, none⟩), .pointer (some ⟨ba, 0, none⟩), .int .i64 (i : Int), .pointer (some ⟨bb, 0, none⟩), .func (.func 30) #[] #[.pointer (some ⟨A0, 0, none⟩), .pointer (some ⟨A0 + 1, 0, none⟩)], .func (.func 30) #[] #[.pointer (some ⟨A1, 0, none⟩), .pointer (some ⟨A1 + 1, 0, none⟩)], .pointer (some ⟨NA, 0, none⟩), undef, undef, .pointer (some ⟨kB, 0, none⟩), .pointer (some ⟨q, 0, none⟩), .int .i64 x.2.2, .pointer (some ⟨ba, 0, none⟩), .pointer (some ⟨ba, 0, none⟩), .bool false, .bool false, .slice va ss.length vc, .bool false, .bool false, .bool false, .agg #[.int .i32 (A : Int), .int .i32 (T : Int), .int .i64 v], .slice (some ⟨w3.heap.size, 0, none⟩) 1 1, .bool false, .bool false, undef, undef, undef, undef, undef, .int .i64 (i : Int), .slice va ss.length vc, .int .i64 (ss.length : Int), .bool false, u39, u40, u41, u42, u43, u44, u45, u46, u47, u48, u49, u50, u51, u52, u53, u54, u55, u56, u57, .pointer (some ⟨ba, 0, none⟩), .pointer (some ⟨bb, 0, none⟩), .pointer (some ⟨bb, 0, none⟩), .bool false, .pointer (some ⟨PB, 0, none⟩), .int .i32 (A : Int), .bool (decide ((A : Int) < 0)), .bool (decide ((A : Int) < 0)), .pointer (some ⟨PB, 1, none⟩), .int .i32 (T : Int), .bool (decide (1114111 < (T : Int))), .bool (decide ((A : Int) < 0) || decide (1114111 < (T : Int))), .bool (decide ((A : Int) < 0) || decide (1114111 < (T : Int))), .pointer (some ⟨PB, 1, none⟩), .int .i32 (T : Int), .pointer (some ⟨PB, 0, none⟩), .int .i32 (A : Int), .bool false, .bool (decide ((A : Int) < 0) || decide (1114111 < (T : Int))), .bool (decide ((A : Int) < 0) || decide (1114111 < (T : Int))), .int .i32 (C : Int), .pointer (some ⟨PB, 0, none⟩), .int .i32 (A : Int), .bool false, .bool (decide ((A : Int) < 0) || decide (1114111 < (T : Int))), .bool (decide ((A : Int) < 0) || decide (1114111 < (T : Int))), .int .i32 (C : Int), .pointer (some ⟨PB, 1, none⟩), .int .i32 (T : Int), .bool false, .bool (decide ((A : Int) < 0) || decide (1114111 < (T : Int))), undef, .pointer (some ⟨ba, 0, none⟩), .pointer (some ⟨PB, 0, none⟩), .int .i32 (A : Int), .pointer (some ⟨PB, 1, none⟩), .int .i32 (T : Int), .pointer (some ⟨PB, 2, none⟩), .int .i64 v, .int .i64 0, .bool false, .bool false, .pointer (some ⟨bb, 0, none⟩), .int .i32 (C : Int), .int .i32 ((C : Int) + 1), .pointer (some ⟨PB, 1, none⟩), .int .i32 (T : Int), .pointer (some ⟨PB, 2, none⟩), .int .i64 v, .int .i64 0, .bool false, .bool false, .bool false, .pointer (some ⟨bb, 0, none⟩), .pointer (some ⟨PB, 0, none⟩), .int .i32 (A : Int), .int .i32 (C : Int), .pointer (some ⟨PB, 2, none⟩), .int .i64 v, .int .i64 0, .bool false, .bool false, .pointer (some ⟨ba, 0, none⟩), .func (.func 30) #[] #[.pointer (some ⟨A0, 0, none⟩), .pointer (some ⟨A0 + 1, 0, none⟩)], .pointer (some ⟨bb, 0, none⟩), .func (.func 30) #[] #[.pointer (some ⟨A1, 0, none⟩), .pointer (some ⟨A1 + 1, 0, none⟩)], .func (.func 30) #[] #[.pointer (some ⟨A0, 0, none⟩), .pointer (some ⟨A0 + 1, 0, none⟩)], .bool false, .bool false, .func (.func 30) #[] #[.pointer (some ⟨A1, 0, none⟩), .pointer (some ⟨A1 + 1, 0, none⟩)], .bool false, .bool false, .func (.func 30) #[] #[.pointer (some ⟨A0, 0, none⟩), .pointer (some ⟨A0 + 1, 0, none⟩)], undef, undef, undef, undef, undef, undef, undef, undef, undef, undef, undef, .func (.func 30) #[] #[.pointer (some ⟨A1, 0, none⟩), .pointer (some ⟨A1 + 1, 0, none⟩)], .agg #[.int .i32 (x.1.val : Int), .int .i32 (x.2.1.val : Int)], .int .i64 x.2.2, undef, undef, undef, undef, undef, undef, undef, undef, undef, undef, undef, undef, undef, undef, undef, undef, undef, undef, undef, undef, undef, undef, undef, undef, undef, undef, undef, undef, undef, undef, undef, undef, undef, undef, undef, undef, undef, undef, undef, undef, undef, undef, undef, undef, undef, undef, undef, undef, undef], defers := [] } ∧ Blk W q #[.int .i32 (x.1.val : Int), .int .i32 (x.2.1.val : Int)] 39)
                (fun x a' => by rintro _ W13 W13' row ⟨q, rfl, h1⟩ hg hr; exact ⟨q, rfl, blk_abides h1 hg (fun r e => (hr r e).2)⟩) ?assign ?body ?done ?stop
              case assign =>
                intro yl pre x W K hi hK
                unfold encP
                obtain ⟨⟨xa, hxa⟩, ⟨xb, hxb⟩, xv⟩ := x
                gi_wp2
                have hbn : Below W.heap.size W (W.alloc (.cells #[.int .i32 (xa : Int), .int .i32 (xb : Int)] 39)) := (Below.refl _ _).alloc (Nat.le_refl _) _
                obtain ⟨⟨hi1, hi2⟩, hi3⟩ := hi
                have h1W : W13.heap.size ≤ W.heap.size := Nat.le_trans hbA0.size hi2.size
                exact hK _ _ ((below_others hbn).from _) (hbn.mono h1W) ⟨⟨hi1.alloc _, hi2.trans (Keep.of_below hbn rfl) (fun _ _ h => h)⟩, hi3⟩ ⟨W.heap.size, rfl, Blk.new _ _ _⟩
              case body =>
                rintro yl pre x a' W hl0 ⟨rl, hrl0⟩ ⟨⟨hnW, hkW⟩, hpre⟩ ⟨q, rfl, hq⟩ hlenp
                dsimp only
                obtain ⟨j, hj⟩ : ∃ j, pre.length = j := ⟨_, rfl⟩
                rw [hj] at hnW hpre hlenp
                have hjk : j < n := by rw [← hk1]; exact hlenp
                obtain ⟨g0, rfl⟩ : ∃ g, ad = some ⟨g, 0, none⟩ := by
                  rcases HAD.out with ⟨_, _, h0⟩ | ⟨g, h, _⟩
                  · omega
                  · exact ⟨g, h⟩
                have hgq := hgl g0 rfl
                obtain ⟨y, hy⟩ : ∃ y, xs[j] = y := ⟨_, rfl⟩
                have hgd : xs.getD j y = y := by rw [List.getD_eq_getElem?_getD, List.getElem?_eq_getElem hlenp, hy]; rfl
                have hcellW : ∀ o u, W14.cell? ⟨g0, o, none⟩ = some u → W.cell? ⟨g0, o, none⟩ = some u := fun o u h => hkW.cell h (by show ¬ g0 = kB; omega)
                have c0 := hcellW (j * 3) (.int .i32 (y.1.val : Int)) (by
                  have := flat_at cells3_len y xs j 0 hlenp (by omega)
                  rw [HROWc.out.cellAt _ (by omega), ← Nat.add_zero (j * 3), this, hgd]; rfl)
                have c1 := hcellW (j * 3 + 1) (.int .i32 (y.2.1.val : Int)) (by rw [HROWc.out.cellAt _ (by omega), flat_at cells3_len y xs j 1 hlenp (by omega), hgd]; rfl)
                have c2 := hcellW (j * 3 + 2) (.int .i64 y.2.2) (by rw [HROWc.out.cellAt _ (by omega), flat_at cells3_len y xs j 2 hlenp (by omega), hgd]; rfl)
                have hcw : W.cell? ⟨NA, 0, none⟩ = some (.slice (some ⟨g0, 0, none⟩) n cap) := hkW.cell hspc (by show ¬ NA = kB; omega)
                have hcn := hnW.cell
                have hfn := hnW.frozen
                have q0 := hq.cell 0
                have q1 := hq.cell 1
                simp at q0 q1
                have hrbW : Boxed W RB 4 (.bool false) := (hkW.block _ hrbc.lt (by show ¬ RB = kB; omega)).trans hrbc
                have hcr := hrbW.cell
                have hfr := hrbW.frozen
                have i0 : (0 : Int) ≤ (j : Int) := by omega
                have i1 : (j : Int) < (n : Int) := by omega
                have i2 : decide (n ≤ j) = false := decide_eq_false (by omega)
                have hxy : x.1.val = y.1.val → x.2.1.val = y.2.1.val → x.2.2 = y.2.2 → x = y := fun h1 h2 h3 => Prod.ext (Fin.ext h1) (Prod.ext (Fin.ext h2) h3)
                have hnp : x ≠ y → ¬ (pre ++ [x]) <+: xs := fun hne hp => by
                  obtain ⟨r, hr⟩ := hp
                  have h1 : xs[j]? = some x := by rw [← hr, ← hj]; simp
                  rw [List.getElem?_eq_getElem hlenp, hy] at h1
                  exact hne (Option.some.inj h1).symm
                have hsz1 : W13.heap.size ≤ W.heap.size := Nat.le_trans hbA0.size hkW.size
                obtain ⟨XA, hXA⟩ : ∃ X : Int, (x.1.val : Int) = X := ⟨_, rfl⟩
                obtain ⟨XB, hXB⟩ : ∃ X : Int, (x.2.1.val : Int) = X := ⟨_, rfl⟩
                obtain ⟨XV, hXV⟩ : ∃ X : Int, x.2.2 = X := ⟨_, rfl⟩
                obtain ⟨YA, hYA⟩ : ∃ X : Int, (y.1.val : Int) = X := ⟨_, rfl⟩
                obtain ⟨YB, hYB⟩ : ∃ X : Int, (y.2.1.val : Int) = X := ⟨_, rfl⟩
                obtain ⟨YV, hYV⟩ : ∃ X : Int, y.2.2 = X := ⟨_, rfl⟩
                rw [hXA] at q0
                rw [hXB] at q1
                rw [hYA] at c0
                rw [hYB] at c1
                rw [hYV] at c2
                rw [hXA, hXB, hXV]
                have hxy' : XA = YA → XB = YB → XV = YV → x = y := fun h1 h2 h3 => hxy (by omega) (by omega) (by rw [hXV, hYV, h3])
                have hne : (XA ≠ YA ∨ XB ≠ YB ∨ XV ≠ YV) → ¬ (pre ++ [x]) <+: xs := fun h => hnp fun e => by subst e; rcases h with h | h | h <;> first | omega | exact h (by rw [← hXV, ← hYV])
                have HXY := Lib.hid hxy'; clear hxy' hxy
                have HNE := Lib.hid hne; clear hne hnp
                have HNW := Lib.hid hnW; clear hnW
                have HKW := Lib.hid hkW; clear hkW
                have HPRE := Lib.hid (And.intro hj (And.intro hpre hy)); clear hj hpre hy
                have HQ := Lib.hid hq; clear hq
                clear hgd hcellW hXA hXB hXV hYA hYB hYV hrbW
                gi_upto_region 28 with fail
                by_cases e1 : XA = YA
                · have e1' : (YA != XA) = false := by rw [e1]; simp
                  by_cases e2 : XB = YB
                  · have e2' : (YB != XB) = false := by rw [e2]; simp
                    by_cases e3 : XV = YV
                    · have e3' : (YV != XV) = false := by rw [e3]; simp
                      have hx := HXY.out e1 e2 e3
                      clear e1 e2 e3
                      refine wpIn_region_quiet_round rfl (by kernel_rfl) (by kernel_rfl) (by kernel_rfl) ?_
                      repeat (gi_big_quiet_step (fail))
                      refine wpQuietIn_nil ?_
                      intro _ hw'
                      obtain ⟨nq, hw''⟩ := hw'
                      subst hw''
                      gi_wp2
                      obtain ⟨hj, hpre, hy⟩ := HPRE.out
                      have hk5 : Keep (fun i => i = kB) W ((W.drewN nq).setCell ⟨kB, 0, none⟩ (.int .i64 ((j : Int) + 1))) := (Keep.of_drewN _ W nq).trans (Keep.of_setCell _ _ _ _) (fun _ _ h => h)
                      have hbx : Boxed (W.drewN nq) (kB) 3 (.int .i64 (j : Int)) := HNW.out
                      refine ownPostG_normal ⟨((⟨Nat.le_refl _, fun _ _ h _ => h⟩ : KeepsOthers W (W.drewN nq)).trans (KeepsOthers.setCell _ _ _)).from _, hk5.below hsz1 (fun i hi => by omega), ⟨?_, HKW.out.trans hk5 (fun _ _ h => h)⟩, ?_⟩
                      · have := hbx.set (.int .i64 ((j : Int) + 1))
                        have e : ((pre ++ [x]).length : Int) = (j : Int) + 1 := by simp [hj]
                        rw [e]; exact this
                      · have e : (pre ++ [x]).length = j + 1 := by simp [hj]
                        rw [e, List.take_succ_eq_append_getElem hlenp, ← hpre, hy, hx]
                    · have e3' : (YV != XV) = true := by simpa using fun h => e3 h.symm
                      have hE := HNE.out (.inr (.inr e3))
                      clear e1 e2 e3
                      refine wpIn_region_quiet_round rfl (by kernel_rfl) (by kernel_rfl) (by kernel_rfl) ?_
                      repeat (gi_big_quiet_step (fail))
                      refine wpQuietIn_nil ?_
                      intro _ hw'
                      obtain ⟨nq, hw''⟩ := hw'
                      subst hw''
                      gi_wp2
                      exact ownPostG_ret ⟨((⟨Nat.le_refl _, fun _ _ h _ => h⟩ : KeepsOthers W (W.drewN nq)).trans (KeepsOthers.setCell _ _ _)).from _, hE⟩
                  · have e2' : (YB != XB) = true := by simpa using fun h => e2 h.symm
                    have hE := HNE.out (.inr (.inl e2))
                    clear e1 e2
                    refine wpIn_region_quiet_round rfl (by kernel_rfl) (by kernel_rfl) (by kernel_rfl) ?_
                    repeat (gi_big_quiet_step (fail))
                    refine wpQuietIn_nil ?_
                    intro _ hw'
                    obtain ⟨nq, hw''⟩ := hw'
                    subst hw''
                    gi_wp2
                    exact ownPostG_ret ⟨((⟨Nat.le_refl _, fun _ _ h _ => h⟩ : KeepsOthers W (W.drewN nq)).trans (KeepsOthers.setCell _ _ _)).from _, hE⟩
                · have e1' : (YA != XA) = true := by simpa using fun h => e1 h.symm
                  have hE := HNE.out (.inl e1)
                  clear e1
                  refine wpIn_region_quiet_round rfl (by kernel_rfl) (by kernel_rfl) (by kernel_rfl) ?_
                  repeat (gi_big_quiet_step (fail))
                  refine wpQuietIn_nil ?_
                  intro _ hw'
                  obtain ⟨nq, hw''⟩ := hw'
                  subst hw''
                  gi_wp2
                  exact ownPostG_ret ⟨((⟨Nat.le_refl _, fun _ _ h _ => h⟩ : KeepsOthers W (W.drewN nq)).trans (KeepsOthers.setCell _ _ _)).from _, hE⟩
              case stop =>
                rintro D c pre W _ hp h _
                exact absurd hp h
              case done =>
                rintro D2 ys W2 hD2 hxs ⟨⟨hnW, hkW⟩, _⟩ hKD2
                subst hxs
                rw [hk1] at hnW
                have hT15 := HT14.out.keep hkW (by show ¬ ba = kB; omega) (by show ¬ ma = kB; omega)
                have hTb15 := HTb14.out.keep hkW (by show ¬ bb = kB; omega) (by show ¬ mb = kB; omega)
                have hrb15 : Boxed W2 RB 4 (.bool false) := (hkW.block _ hrbc.lt (by show ¬ RB = kB; omega)).trans hrbc
                have hs15 : W2.cell? ⟨NA, 0, none⟩ = some (.slice ad n cap) := hkW.cell hspc (by show ¬ NA = kB; omega)
                have hk15 := hnW.cell
                have hDk : D ≠ kB := fun e => by
                  have h1 : W14.heap[kB]? = some (.cells #[.int .i64 0] 3 (0, 0)) := hkb
                  rw [← e, HK14.out] at h1
                  cases h1
                have hD15 : W2.heap[D]? = some (.deferred (some [])) := (hkW.block _ (Array.getElem?_eq_some_iff.1 HK14.out).1 (by show ¬ D = kB; exact hDk)).trans HK14.out
                have hB15 := HB14.out.trans (hkW.below HB14.out.size (fun j e => by omega))
                have hD12 : D ≠ D2 := fun e => by have := (Array.getElem?_eq_some_iff.1 HK14.out).1; omega
                have hcb : cntB 0 f2 = cntB 0 g := by
                  unfold cntB
                  refine count_same _ _ _ fun a ha => ?_
                  rw [Bool.eq_iff_iff, apartB_iff, apartB_iff]
                  constructor <;> (rintro ⟨j, hj, hne⟩; refine ⟨j, hj, ?_⟩)
                  · rw [← HGE.out _ (by omega)]; exact hne
                  · rw [HGE.out _ (by omega)]; exact hne
                have HCB := Lib.hid hcb; clear hcb
                have HT15 := Lib.hid hT15; clear hT15
                have HTb15 := Lib.hid hTb15; clear hTb15
                have HRB15 := Lib.hid hrb15; clear hrb15
                have HD15 := Lib.hid hD15; clear hD15
                have HD2 := Lib.hid hKD2; clear hKD2
                have HB15 := Lib.hid hB15; clear hB15
                clear hnW hkW hspc hrbc hkb HT14 HTb14 HK14 HB14
                gi_wp2_with fail
                go_wp2_with fail
                refine (blocks_any _ rfl ba ma 0 f2 W2 HT15.out).mono ?_
                rintro e w16 ⟨rfl, hw16⟩
                rw [← hw16, HCB.out]
                clear hw16
                go_wp2_with fail
                refine (blocks_any _ rfl bb mb 0 g W2 HTb15.out).mono ?_
                rintro e w17 ⟨rfl, hw17⟩
                rw [← hw17]
                clear hw17
                go_wp2_with fail
                refine (awake_any W2).mono ?_
                rintro e w18 ⟨rfl, hb18⟩
                have hB18 := HB15.out.trans (hb18.mono HB15.out.size)
                have hrb18 : Boxed w18 RB 4 (.bool false) := (hb18.block _ HRB15.out.lt).trans HRB15.out
                have hrc := hrb18.cell
                have hrf := hrb18.frozen
                have HRB18 := Lib.hid hrb18; clear hrb18
                have HB18 := Lib.hid hB18; clear hB18
                go_wp2
                have hDlt := (Array.getElem?_eq_some_iff.1 HD15.out).1
                have hD2lt := (Array.getElem?_eq_some_iff.1 HD2.out).1
                have hDr : D ≠ RB := fun e => by have := HD15.out; rw [e, show W2.heap[RB]? = _ from HRB15.out] at this; cases this
                have hD2r : D2 ≠ RB := fun e => by have := HD2.out; rw [e, show W2.heap[RB]? = _ from HRB15.out] at this; cases this
                have hrb19 := HRB18.out.set (.bool true)
                obtain ⟨V, hV⟩ : ∃ V, w18.setCell ⟨RB, 0, none⟩ (.bool true) = V := ⟨_, rfl⟩
                have hVD2 : V.heap[D2]? = some (.deferred (some [])) := by rw [← hV]; exact (Below.heap_setCell _ _ _ _ hD2r).trans ((hb18.block D2 hD2lt).trans HD2.out)
                have hVD : V.heap[D]? = some (.deferred (some [])) := by rw [← hV]; exact (Below.heap_setCell _ _ _ _ hDr).trans ((hb18.block D hDlt).trans HD15.out)
                have hVB : Below w.heap.size w V := by rw [← hV]; exact HB18.out.setCell (p := ⟨RB, 0, none⟩) hRBw2 _
                rw [hV] at hrb19 ⊢
                have hVD' : (V.putObj D2 (.deferred none)).heap[D]? = some (.deferred (some [])) := (World.putObj_heap_other hD12).trans hVD
                refine ⟨by simp, .inl ⟨_, _, rfl, run_takeDeferred hVD2, ?_⟩⟩
                refine ⟨by simp, .inl ⟨_, _, rfl, run_takeDeferred hVD', ?_⟩⟩
                have hrb20 : Boxed ((V.putObj D2 (.deferred none)).putObj D (.deferred none)) RB 4 (.bool true) := (World.putObj_heap_other (fun e => hDr e.symm)).trans ((World.putObj_heap_other (fun e => hD2r e.symm)).trans hrb19)
                refine ⟨_, results_cell1 (a := ⟨RB, 0, none⟩) rfl rfl (by simp [loadVar, Try.isAgg4, go_sem, hrb20.cell]), rfl, ?_⟩
                have hbD2 := belowK_b (w := w) (Nat.le_refl _) V D2 (.deferred (some [])) (.deferred none) (by omega) hVD2 rfl rfl
                have hbD := belowK_b (w := w) (Nat.le_refl _) (V.putObj D2 (.deferred none)) D (.deferred (some [])) (.deferred none) (by omega) hVD' rfl rfl
                exact (hVB.trans hbD2).trans hbD
            -- END1
          · have hor : a < 0 ∨ (¬ a < 0 ∧ 1114111 < t) ∨ (¬ a < 0 ∧ ¬ 1114111 < t ∧ t < a) ∨ (¬ a < 0 ∧ ¬ 1114111 < t ∧ ¬ t < a ∧ r < a) ∨ (¬ a < 0 ∧ ¬ 1114111 < t ∧ ¬ t < a ∧ ¬ r < a ∧ t ≤ r) := by omega
            clear hok
            rcases hor with g1 | ⟨g1, g2⟩ | ⟨g1, g2, g3⟩ | ⟨g1, g2, g3, g4⟩ | ⟨g1, g2, g3, g4, g5⟩
            all_goals
              go_wp2_with fail
              refine (awake_any _).mono ?_
              rintro e w7 ⟨rfl, hb7⟩
              have hrb7 : Boxed w7 (PB + 1) 4 (.bool false) := (hb7.block _ HRb6.out.lt).trans HRb6.out
              have hrc := hrb7.cell
              have hrf := hrb7.frozen
              go_wp2
              have hrb8 := hrb7.set (.bool true)
              have hbb7 := HB6.out.trans (hb7.mono HB6.out.size)
              exact ⟨_, results_cell1 (a := ⟨PB + 1, 0, none⟩) rfl rfl (by simp [loadVar, Try.isAgg4, go_sem, hrb8.cell]), rfl, hbb7.setCell (p := ⟨PB + 1, 0, none⟩) hRw _⟩

end Go.Proofs.Ytkpkcimghkmkfaa
