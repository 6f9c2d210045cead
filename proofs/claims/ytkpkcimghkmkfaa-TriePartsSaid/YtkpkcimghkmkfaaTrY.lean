/-
  The law TrieAgain, walked.
-/
import Derived.Test.YtkpkcimghkmkfaaTrX
import Derived.Test.YtkpkcimghkmkfaaLibX
namespace Go.Proofs.Ytkpkcimghkmkfaa
open Go.RowKit Go.Shelf
attribute [local go_sem] Oper.semAt_some

theorem wpListIn_appendN {P : Program} {F : Fence} {nF : Nat} {t e : TypeId} {z : Value} {size bytes : Nat} (E : ElemN P t e z size bytes) {w : World} {ops : Array Oper} {rest : List Oper} {o : Oper} {a : Act} {Q : Exit → Act → World → Prop} (hgd : o.guard = none) (s x : Operand)
    (ho : o.op = .call { callee := .builtin .append, args := #[s, x], argTypes := #[t, t] }) (base : Nat) (v : Value) (n : Nat) (xs : List Value) (hs : a.eval s = v) (hown : w.ownsRow base e size v n xs)
    (p : Nat) (cs : Array Value) (T : TypeId) (hp : Blk w p cs T) (hx : a.eval x = .slice (some ⟨p, 0, none⟩) 1 1) (hl : cs.toList.length = size) (h1 : ∀ u ∈ cs.toList, u.oneCell' = true) (hbytes : (n + 1) * bytes ≤ 140737488355328) (hn : n ≤ 140737488355328) (hbase : base ≤ w.heap.size)
    (h : ∀ g cap w', w'.ownsRow base e size (.slice (some ⟨g, 0, none⟩) (n + 1) cap) (n + 1) (xs ++ cs.toList) → w.grownBy w' v.ownBlock → wpListIn F nF P ops Q rest (a.put o.dst (.slice (some ⟨g, 0, none⟩) (n + 1) cap)) w') :
    wpListIn F nF P ops Q (o :: rest) a w := by
  obtain ⟨i, hi, hz, hsz, hby⟩ := E.hi
  refine wpListIn_append_own_at w hgd s x t ho base e i z size bytes E.ht hi hz hsz hby E.hz E.hs v n xs hs hown ⟨p, 0, none⟩ 1 1 cs.toList hx (by rw [hl, Nat.one_mul]) (World.news_of_block hp) h1 (by unfold maxLen; omega) hbytes hbase ?_
  intro v' w' h2 h3 _ _
  obtain ⟨g, cap, rfl⟩ := ownsRow_succ h2
  exact h g cap w' h2 h3

/-- the spans that were collected, in a box -/
def SpI (NA spB : Nat) (w0 : World) (pre : List Pc) (W : World) : Prop :=
  (∃ v, Boxed W spB 22 v ∧ W.ownsRow NA 33 3 v pre.length (flat cells3 pre) ∧ True) ∧ Below NA w0 W
theorem spI_from (NA spB C : Nat) (w0 : World) (h0 : NA ≤ w0.heap.size) (hC : NA ≤ C) : OwnFrom C (SpI NA spB w0) :=
  OwnFrom.and ((holdsRow_own NA spB _ _ 3 (fun pre => pre.length) (fun pre => flat cells3 pre) (fun _ _ => True)).from _) (ownFrom_below h0 hC)

set_option maxRecDepth 100000 in
set_option maxHeartbeats 8000000 in
theorem again_walk (vl : Value) (ss : List (Int × Int × Int)) (fr : Int) (hfr : -9223372036854775808 ≤ fr ∧ fr ≤ 9223372036854775807) (w : World) (hl : RdSp w vl ss) :
    Calls Try.prog 4 #[vl, .int .i64 fr] w fun e w' => e = .returned (.bool true) ∧ Below w.heap.size w w' := by
  have hnn := func_not_nil Try.underlying37
  have HNN := Lib.hid hnn
  obtain ⟨va, vc, rfl, hl1, hl2, hl3⟩ := id hl
  have HL := Lib.hid hl; clear hl
  have HL3 := Lib.hid hl3; clear hl3
  have HFR := Lib.hid hfr; clear hfr
  refine (callsIn_wide (n := 9)).1 ?_
  refine callsIn_of_wp_marks Try.func4 rfl trivial ?_ rfl
  simp only [Try.ntmps4, List.size_toArray, List.length_cons, List.length_nil, Nat.reduceAdd, Nat.reduceSub, Array.replicate_succ, Array.replicate_zero, List.push_toArray, List.append_toArray, List.nil_append, List.cons_append]
  refine wpIn_wide.2 ?_
  go_wp2_with fail
  obtain ⟨RB, hRB⟩ : ∃ q, w.heap.size = q := ⟨_, rfl⟩
  obtain ⟨W0, hW0⟩ : ∃ W0, w.alloc (.cells #[.bool false] 4) = W0 := ⟨_, rfl⟩
  have hB0 : Below w.heap.size w W0 := by rw [← hW0]; exact (Below.refl _ _).alloc (Nat.le_refl _) _
  have hrb0 : Boxed W0 RB 4 (.bool false) := by rw [← hW0, ← hRB]; exact Boxed.new _ _ _
  have hRBw : RB < W0.heap.size := hrb0.lt
  rw [hW0]
  try rw [hRB]
  have HRB := Lib.hid hRB; clear hRB
  clear hW0
  refine (new_any _ rfl 0 W0).mono ?_
  rintro e w1 ⟨ba, ma, rfl, hba, hma, hTa, hb1⟩
  have HTa := Lib.hid hTa; clear hTa
  have hbb1 := hB0.trans (hb1.mono hB0.size)
  have hrb1 : Boxed w1 RB 4 (.bool false) := (hb1.block _ hrb0.lt).trans hrb0
  go_wp2_with fail
  refine (new_any _ rfl 0 w1).mono ?_
  rintro e w2 ⟨bb, mb, rfl, hbb, hmb, hTb, hb2⟩
  have HTb := Lib.hid hTb; clear hTb
  have hbb2 := hbb1.trans (hb2.mono hbb1.size)
  have hrb2 : Boxed w2 RB 4 (.bool false) := (hb2.block _ hrb1.lt).trans hrb1
  have hal := HTa.out.blk.lt
  have ham := HTa.out.ltm
  have HTa2 := Lib.hid (HTa.out.keep (Keep.of_below (S := fun _ => False) hb2 rfl) (fun h => h) (fun h => h))
  go_wp2_with fail
  refine (wide_few _ ss w2 (HL.out.mono hbb2 rfl)).mono ?_
  rintro e w3 ⟨⟨t1, rfl, h40⟩, hb3⟩
  have hbb3 := hbb2.trans (hb3.mono hbb2.size)
  have hrb3 : Boxed w3 RB 4 (.bool false) := (hb3.block _ hrb2.lt).trans hrb2
  cases t1 with
  | true =>
    go_wp2_with fail
    refine (awake_any _).mono ?_
    rintro e w4 ⟨rfl, hb4⟩
    have hrb4 : Boxed w4 RB 4 (.bool false) := (hb4.block _ hrb3.lt).trans hrb3
    have hrc := hrb4.cell
    have hrf := hrb4.frozen
    go_wp2
    have hrb5 := hrb4.set (.bool true)
    have hbb4 := hbb3.trans (hb4.mono hbb3.size)
    have hRw : w.heap.size ≤ RB := by rw [HRB.out]; exact Nat.le_refl _
    exact ⟨_, results_cell1 (a := ⟨RB, 0, none⟩) rfl rfl (by simp [loadVar, Try.isAgg4, go_sem, hrb5.cell]), rfl, hbb4.setCell (p := ⟨RB, 0, none⟩) hRw _⟩
  | false =>
    have hss := h40 rfl
    clear h40
    have HTa3 := Lib.hid (HTa2.out.keep (Keep.of_below (S := fun _ => False) hb3 rfl) (fun h => h) (fun h => h))
    have HTb3 := Lib.hid (HTb.out.keep (Keep.of_below (S := fun _ => False) hb3 rfl) (fun h => h) (fun h => h))
    have hne1 : ba ≠ bb ∧ ba ≠ mb ∧ ma ≠ bb ∧ ma ≠ mb := by omega
    have hne2 : RB ≠ ba ∧ RB ≠ ma ∧ RB ≠ bb ∧ RB ≠ mb := by have := hb1.size; omega
    have hwa : w.heap.size ≤ ma ∧ w.heap.size ≤ mb := by have := hB0.size; have := hb1.size; omega
    clear HTa HTa2 HTb hb1 hb2 hb3 hbb1 hbb2 hrb0 hrb1 hrb2 hB0
    have HB3 := Lib.hid hbb3; clear hbb3
    have HRB3 := Lib.hid hrb3; clear hrb3
    go_wp2_with fail
    go_loopw [7] (fun s7 wr => ∃ (i : Nat) (f : Nat → Int), i ≤ ss.length ∧ s7 = .int .i64 i ∧ TabAt Try.prog wr ba ma 0 f ∧ TabAt Try.prog wr bb mb 0 (fun _ => 0) ∧ Boxed wr RB 4 (.bool false) ∧ Below w.heap.size w wr)
      (fun s7 _ => ss.length - (intOf s7).toNat)
    case atStart => exact ⟨0, fun _ => 0, Nat.zero_le _, rfl, HTa3.out, HTb3.out, HRB3.out, HB3.out⟩
    case round =>
      obtain ⟨i, f, hi, rfl, hT, hTb, hRb, hB⟩ := hrel
      have hbs := hB.size
      by_cases hlt : i < ss.length
      · obtain ⟨bl, o, rfl, hc⟩ : ∃ bb o, va = some ⟨bb, o, none⟩ ∧ ∀ j, j < ss.length → w.cell? ⟨bb, o + j * 3, none⟩ = some (.int .i32 (ss.getD j (0, 0, 0)).1) ∧ w.cell? ⟨bb, o + j * 3 + 1, none⟩ = some (.int .i32 (ss.getD j (0, 0, 0)).2.1) ∧ w.cell? ⟨bb, o + j * 3 + 2, none⟩ = some (.int .i64 (ss.getD j (0, 0, 0)).2.2) := by
          rcases HL3.out with h | ⟨bb, o, h, hc⟩
          · rw [h] at hlt; simp at hlt
          · exact ⟨bb, o, h, fun j hj => ⟨(hc j hj).1, (hc j hj).2.1, (hc j hj).2.2.1⟩⟩
        obtain ⟨c0, c1, c2⟩ := hc i hlt
        clear hc
        obtain ⟨sa, hsa⟩ : ∃ x, (ss.getD i (0, 0, 0)).1 = x := ⟨_, rfl⟩
        obtain ⟨sb, hsb⟩ : ∃ x, (ss.getD i (0, 0, 0)).2.1 = x := ⟨_, rfl⟩
        obtain ⟨sv, hsv⟩ : ∃ x, (ss.getD i (0, 0, 0)).2.2 = x := ⟨_, rfl⟩
        rw [hsa] at c0
        rw [hsb] at c1
        rw [hsv] at c2
        have hbw := cell_lt c0
        have d0 : wr.drew.cell? ⟨bl, o + i * 3, none⟩ = some (.int .i32 sa) := (hB.cell (p := ⟨bl, o + i * 3, none⟩) (cell_lt c0)).trans c0
        have d1 : wr.drew.cell? ⟨bl, o + i * 3 + 1, none⟩ = some (.int .i32 sb) := (hB.cell (p := ⟨bl, o + i * 3 + 1, none⟩) (cell_lt c1)).trans c1
        have d2 : wr.drew.cell? ⟨bl, o + i * 3 + 2, none⟩ = some (.int .i64 sv) := (hB.cell (p := ⟨bl, o + i * 3 + 2, none⟩) (cell_lt c2)).trans c2
        have i0 : (0 : Int) ≤ (i : Int) := by omega
        have i1 : (i : Int) < (ss.length : Int) := by omega
        have HT5 := Lib.hid hT.drew
        have HTb5 := Lib.hid hTb.drew
        have HRb5 := Lib.hid (show Boxed wr.drew RB 4 (.bool false) from hRb)
        have HB5 := Lib.hid hB.drew; clear hB hT hTb hRb
        clear c0 c1 c2
        go_wp2_with fail
        have hS0 : wr.drew.cell? ⟨bl, o + i * 3, none⟩ = some (.int .i32 sa) ∧ wr.drew.cell? ⟨bl, o + i * 3 + 1, none⟩ = some (.int .i32 sb) ∧ wr.drew.cell? ⟨bl, o + i * 3 + 2, none⟩ = some (.int .i64 sv) := ⟨d0, d1, d2⟩
        refine wp_region_noPanic ?_
        refine wp_region_held_drew (S := fun w' => w'.cell? ⟨bl, o + i * 3, none⟩ = some (.int .i32 sa) ∧ w'.cell? ⟨bl, o + i * 3 + 1, none⟩ = some (.int .i32 sb) ∧ w'.cell? ⟨bl, o + i * 3 + 2, none⟩ = some (.int .i64 sv)) (by kernel_rfl) hS0 (fun hHeld => ?_)
        clear hS0
        refine wpAnyH_takeD (i := 0) (d := some 43) (v := ?_) rfl rfl (by kernel_rfl) (by kernel_rfl) (by kernel_rfl) (fun _ _ _ h => h) (Or.inl ⟨by rfl, ?_⟩) (by assumption) ?_
        rotate_left
        · intro w hSw; (try dsimp only at hSw); go_simp; all_goals (with_reducible rfl)
        simp only [Act.put, List.setIfInBounds_toArray, List.set_cons_zero, List.set_cons_succ]
        refine wpAnyH_takeD (i := 1) (d := some 44) (v := ?_) rfl rfl (by kernel_rfl) (by kernel_rfl) (by kernel_rfl) (fun _ _ _ h => h) (Or.inl ⟨by rfl, ?_⟩) (by assumption) ?_
        rotate_left
        · intro w hSw; (try dsimp only at hSw); go_simp; all_goals (with_reducible rfl)
        simp only [Act.put, List.setIfInBounds_toArray, List.set_cons_zero, List.set_cons_succ]
        refine wpAnyH_takeD (i := 2) (d := some 45) (v := ?_) rfl rfl (by kernel_rfl) (by kernel_rfl) (by kernel_rfl) (fun _ _ _ h => h) (Or.inl ⟨by rfl, ?_⟩) (by assumption) ?_
        rotate_left
        · intro w hSw; (try dsimp only at hSw); go_simp; all_goals (with_reducible rfl)
        simp only [Act.put, List.setIfInBounds_toArray, List.set_cons_zero, List.set_cons_succ]
        refine wpAnyH_takeD (i := 3) (d := some 46) (v := ?_) rfl rfl (by kernel_rfl) (by kernel_rfl) (by kernel_rfl) (fun _ _ _ h => h) (Or.inl ⟨by rfl, ?_⟩) (by assumption) ?_
        rotate_left
        · intro w hSw; (try dsimp only at hSw); go_simp; all_goals (with_reducible rfl)
        simp only [Act.put, List.setIfInBounds_toArray, List.set_cons_zero, List.set_cons_succ]
        refine wpAnyH_takeD (i := 4) (d := some 47) (v := ?_) rfl rfl (by kernel_rfl) (by kernel_rfl) (by kernel_rfl) (fun _ _ _ h => h) (Or.inl ⟨by rfl, ?_⟩) (by assumption) ?_
        rotate_left
        · intro w hSw; (try dsimp only at hSw); go_simp; all_goals (with_reducible rfl)
        simp only [Act.put, List.setIfInBounds_toArray, List.set_cons_zero, List.set_cons_succ]
        refine wpAnyH_takeD (i := 5) (d := some 48) (v := ?_) rfl rfl (by kernel_rfl) (by kernel_rfl) (by kernel_rfl) (fun _ _ _ h => h) (Or.inl ⟨by rfl, ?_⟩) (by assumption) ?_
        rotate_left
        · intro w hSw; (try dsimp only at hSw); go_simp; all_goals (with_reducible rfl)
        simp only [Act.put, List.setIfInBounds_toArray, List.set_cons_zero, List.set_cons_succ]
        refine wpAnyH_takeD (i := 6) (d := some 49) (v := ?_) rfl rfl (by kernel_rfl) (by kernel_rfl) (by kernel_rfl) (fun _ _ _ h => h) (Or.inl ⟨by rfl, ?_⟩) (by assumption) ?_
        rotate_left
        · intro w hSw; (try dsimp only at hSw); go_simp; all_goals (with_reducible rfl)
        simp only [Act.put, List.setIfInBounds_toArray, List.set_cons_zero, List.set_cons_succ]
        refine wpAnyH_takeD (i := 7) (d := some 50) (v := ?_) rfl rfl (by kernel_rfl) (by kernel_rfl) (by kernel_rfl) (fun _ _ _ h => h) (Or.inl ⟨by rfl, ?_⟩) (by assumption) ?_
        rotate_left
        · intro w hSw; (try dsimp only at hSw); go_simp; all_goals (with_reducible rfl)
        simp only [Act.put, List.setIfInBounds_toArray, List.set_cons_zero, List.set_cons_succ]
        refine wpAnyH_takeD (i := 8) (d := some 51) (v := ?_) rfl rfl (by kernel_rfl) (by kernel_rfl) (by kernel_rfl) (fun _ _ _ h => h) (Or.inl ⟨by rfl, ?_⟩) (by assumption) ?_
        rotate_left
        · intro w hSw; (try dsimp only at hSw); go_simp; all_goals (with_reducible rfl)
        simp only [Act.put, List.setIfInBounds_toArray, List.set_cons_zero, List.set_cons_succ]
        refine wpAnyH_takeD (i := 9) (d := some 52) (v := ?_) rfl rfl (by kernel_rfl) (by kernel_rfl) (by kernel_rfl) (fun _ _ _ h => h) (Or.inl ⟨by rfl, ?_⟩) (by assumption) ?_
        rotate_left
        · intro w hSw; (try dsimp only at hSw); go_simp; all_goals (with_reducible rfl)
        simp only [Act.put, List.setIfInBounds_toArray, List.set_cons_zero, List.set_cons_succ]
        refine wpAnyH_takeD (i := 10) (d := some 53) (v := ?_) rfl rfl (by kernel_rfl) (by kernel_rfl) (by kernel_rfl) (fun _ _ _ h => h) (Or.inl ⟨by rfl, ?_⟩) (by assumption) ?_
        rotate_left
        · intro w hSw; (try dsimp only at hSw); go_simp; all_goals (with_reducible rfl)
        simp only [Act.put, List.setIfInBounds_toArray, List.set_cons_zero, List.set_cons_succ]
        refine wpAnyH_takeD (i := 11) (d := some 54) (v := ?_) rfl rfl (by kernel_rfl) (by kernel_rfl) (by kernel_rfl) (fun _ _ _ h => h) (Or.inl ⟨by rfl, ?_⟩) (by assumption) ?_
        rotate_left
        · intro w hSw; (try dsimp only at hSw); go_simp; all_goals (with_reducible rfl)
        simp only [Act.put, List.setIfInBounds_toArray, List.set_cons_zero, List.set_cons_succ]
        refine wpAnyH_takeD (i := 12) (d := some 55) (v := ?_) rfl rfl (by kernel_rfl) (by kernel_rfl) (by kernel_rfl) (fun _ _ _ h => h) (Or.inl ⟨by rfl, ?_⟩) (by assumption) ?_
        rotate_left
        · intro w hSw; (try dsimp only at hSw); go_simp; all_goals (with_reducible rfl)
        simp only [Act.put, List.setIfInBounds_toArray, List.set_cons_zero, List.set_cons_succ]
        refine wpAnyH_takeD (i := 13) (d := some 56) (v := ?_) rfl rfl (by kernel_rfl) (by kernel_rfl) (by kernel_rfl) (fun _ _ _ h => h) (Or.inl ⟨by rfl, ?_⟩) (by assumption) ?_
        rotate_left
        · intro w hSw; (try dsimp only at hSw); go_simp; all_goals (with_reducible rfl)
        simp only [Act.put, List.setIfInBounds_toArray, List.set_cons_zero, List.set_cons_succ]
        refine wpAnyH_takeD (i := 14) (d := some 57) (v := ?_) rfl rfl (by kernel_rfl) (by kernel_rfl) (by kernel_rfl) (fun _ _ _ h => h) (Or.inl ⟨by rfl, ?_⟩) (by assumption) ?_
        rotate_left
        · intro w hSw; (try dsimp only at hSw); go_simp; all_goals (with_reducible rfl)
        simp only [Act.put, List.setIfInBounds_toArray, List.set_cons_zero, List.set_cons_succ]
        refine wpAnyH_takeD (i := 15) (d := some 58) (v := ?_) rfl rfl (by kernel_rfl) (by kernel_rfl) (by kernel_rfl) (fun _ _ _ h => h) (Or.inl ⟨by rfl, ?_⟩) (by assumption) ?_
        rotate_left
        · intro w hSw; (try dsimp only at hSw); go_simp; all_goals (with_reducible rfl)
        simp only [Act.put, List.setIfInBounds_toArray, List.set_cons_zero, List.set_cons_succ]
        refine wpAnyH_ready (rs := [16]) (by kernel_rfl) (by simp) ?_
        refine AllReadyH.cons (o := _) rfl (fun K hK => ?_) AllReadyH.nil
        go_simp
        refine (set_anyZ ba ma 0 f sa sb sv wr.drew HT5.out).mono ?_
        rintro e w5 ⟨rfl, hT6, hk6⟩
        go_wp2_with fail
        have hS1 := And.intro (hk6.cell d0 (by show ¬ bl = ma; omega)) (And.intro (hk6.cell d1 (by show ¬ bl = ma; omega)) (hk6.cell d2 (by show ¬ bl = ma; omega)))
        refine hK.out _ _ hS1 (fun hHeld => ?_)
        clear hK K d0 d1 d2 hS1
        try simp only [Act.put, List.setIfInBounds_toArray, List.set_cons_zero, List.set_cons_succ]
        have HT6 := Lib.hid hT6; clear hT6
        have HTb6 := Lib.hid (HTb5.out.keep hk6 (by show ¬ bb = ma; omega) (by show ¬ mb = ma; omega))
        have HB6 := Lib.hid (HB5.out.trans (hk6.below hbs (fun j e => by omega)))
        have HRb6 := Lib.hid (show Boxed w5 RB 4 (.bool false) from (hk6.block _ HRb5.out.lt (by show ¬ RB = ma; omega)).trans HRb5.out)
        clear hk6
        refine wpAnyH_done (by kernel_rfl) ?_ _
        refine NoPanic.normal ?_
        go_wp2
        go_roundw
        case rel => exact ⟨i + 1, _, by omega, by go_num, HT6.out, HTb6.out, HRb6.out, HB6.out⟩
        case measure => simp [intOf]; omega
      · have i2 : ¬ (i : Int) < (ss.length : Int) := by omega
        have HT5 := Lib.hid hT; clear hT
        have HTb5 := Lib.hid hTb; clear hTb
        have HRb5 := Lib.hid hRb; clear hRb
        have HB5 := Lib.hid hB; clear hB
        go_wp2_with fail
        refine (all_any ba ma 0 f wr HT5.out).mono ?_
        rintro e w6 ⟨rfl, l, vl1, vv1, hRun, hA1, hA2, hA3, hA4, hb6⟩
        have hAll : AllAt w6 wr.heap.size (wr.heap.size + 1) l := ⟨_, vl1, vv1, hA1, hA2, hA3, hA4⟩
        have hlen : l.length ≤ 1114112 := hRun.toPieces.len
        have HB6 := Lib.hid (HB5.out.trans (hb6.mono HB5.out.size))
        have HT6 := Lib.hid (HT5.out.keep (Keep.of_below (S := fun _ => False) hb6 rfl) (fun h => h) (fun h => h))
        have HTb6 := Lib.hid (HTb5.out.keep (Keep.of_below (S := fun _ => False) hb6 rfl) (fun h => h) (fun h => h))
        have HRb6 := Lib.hid (show Boxed w6 RB 4 (.bool false) from (hb6.block _ HRb5.out.lt).trans HRb5.out)
        obtain ⟨A0, hA0⟩ : ∃ q, wr.heap.size = q := ⟨_, rfl⟩
        rw [hA0] at hAll ⊢
        clear hA0 hA1 hA2 hA3 hA4 hb6 hbs HT5 HTb5 HRb5 HB5
        have HALL := Lib.hid hAll; clear hAll
        have HRun := Lib.hid hRun; clear hRun
        go_wp2_with fail
        obtain ⟨NA, hNA⟩ : ∃ q, w6.heap.size = q := ⟨_, rfl⟩
        obtain ⟨W7, hW7⟩ : ∃ W7, w6.alloc (.cells #[.slice none 0 0] 22) = W7 := ⟨_, rfl⟩
        have hsp7 : Boxed W7 NA 22 (.slice none 0 0) := by rw [← hW7, ← hNA]; exact Boxed.new _ _ _
        have hb67 : Below w6.heap.size w6 W7 := by rw [← hW7]; exact (Below.refl _ _).alloc (Nat.le_refl _) _
        have hs7 : W7.heap.size = NA + 1 := by rw [← hW7, ← hNA]; simp
        have h6s := HB6.out.size
        rw [hW7, hNA]
        rw [hNA] at hb67
        clear hW7
        refine (wpIn_wide (n := 9)).1 ?_
        refine wpIn_rangeFunc_ownH (F := Fence.wide) rfl (by omega) (gf := 30) (lb := #[.pointer (some ⟨A0, 0, none⟩), .pointer (some ⟨A0 + 1, 0, none⟩)]) rfl trivial (enters_of Try.func30 (by kernel_rfl) rfl)
          (all_stops 8 (by omega) A0 (A0 + 1) l w6 HALL.out hlen) (fun h k => h.trans k) (belowN_b (by rw [hs7, hNA]; omega)) (by rw [hNA]; exact hb67) (fun _ => rfl)
          (SpI NA NA w6)
          (fun _ pre _ => ¬ pre <+: l)
          (spI_from NA NA _ w6 (by rw [hNA]; exact Nat.le_refl _) (by rw [hs7]; omega))
          (fun _ _ _ _ _ hs _ _ => hs)
          ⟨⟨_, hsp7, World.ownsRow_nil _ _ _ _, trivial⟩, hb67⟩
          (fun x a' W => ∃ q, a' = { tmps := #[.slice va ss.length vc, .int .i64 fr, undef, undef, .pointer (some ⟨RB, 0, none⟩), .pointer (some ⟨ba, 0, none⟩), .pointer (some ⟨bb, 0, none⟩), .int .i64 i, (.func (.func 30) #[] #[.pointer (some ⟨A0, 0, none⟩), .pointer (some ⟨A0 + 1, 0, none⟩)]), .pointer (some ⟨NA, 0, none⟩), .pointer (some ⟨q, 0, none⟩), .int .i64 x.2.2, undef, undef, undef, undef, undef, undef, undef, undef, .pointer (some ⟨ba, 0, none⟩), .pointer (some ⟨bb, 0, none⟩), .pointer (some ⟨ba, 0, none⟩), .bool false, .bool false, .pointer (some ⟨bb, 0, none⟩), .bool false, .bool false, .bool false, .slice va ss.length vc, .bool false, .bool false, undef, undef, undef, undef, undef, .int .i64 i, .slice va ss.length vc, .int .i64 ss.length, .bool false, u41, u42, u43, u44, u45, u46, u47, u48, u49, u50, u51, u52, u53, u54, u55, u56, u57, u58, u59, .pointer (some ⟨ba, 0, none⟩), (.func (.func 30) #[] #[.pointer (some ⟨A0, 0, none⟩), .pointer (some ⟨A0 + 1, 0, none⟩)]), (.func (.func 30) #[] #[.pointer (some ⟨A0, 0, none⟩), .pointer (some ⟨A0 + 1, 0, none⟩)]), .bool false, (.func (.func 30) #[] #[.pointer (some ⟨A0, 0, none⟩), .pointer (some ⟨A0 + 1, 0, none⟩)]), .agg #[.int .i32 (x.1.val : Int), .int .i32 (x.2.1.val : Int)], .int .i64 x.2.2, undef, undef, undef, undef, undef, undef, undef, undef, undef, undef, undef, undef, undef, undef, undef, undef, undef, undef, undef, undef, undef, undef, undef, undef, undef, undef, undef, undef, undef, undef, undef, undef, undef, undef, undef, undef, undef, undef, undef, undef, undef, undef, undef, undef, undef, undef, undef, undef, undef, undef, undef, undef, undef, undef, undef, undef, undef, undef, undef, undef, undef, undef, undef, undef, undef, undef, undef, undef, undef, undef, undef, undef, undef, undef, undef, undef, undef, undef, undef, undef, undef, undef, undef, undef, undef, undef, undef, undef, undef, undef, undef, undef, undef, undef, undef, undef, undef, undef, undef, undef, undef, undef, undef, undef, undef, undef, undef, undef, undef, undef, undef, undef, undef, undef, undef, undef, undef, undef, undef, undef, undef, undef, undef, undef, undef, undef, undef, undef, undef, undef, undef, undef, undef, undef, undef, undef, undef, undef, undef, undef, undef], defers := [] } ∧ Blk W q #[.int .i32 (x.1.val : Int), .int .i32 (x.2.1.val : Int)] 39)
          (fun x a' => by rintro _ W W' row ⟨q, rfl, h1⟩ hg hr; exact ⟨q, rfl, blk_abides h1 hg (fun r e => (hr r e).2)⟩) ?assign ?body ?done ?stop
        case assign =>
          intro yl pre x W K hi hK
          unfold encP
          obtain ⟨⟨xa, hxa⟩, ⟨xb, hxb⟩, xv⟩ := x
          gi_wp2
          have hbn : Below W.heap.size W (W.alloc (.cells #[.int .i32 (xa : Int), .int .i32 (xb : Int)] 39)) := (Below.refl _ _).alloc (Nat.le_refl _) _
          obtain ⟨⟨v, hi1, hi2, _⟩, hi3⟩ := hi
          have h1W : w6.heap.size ≤ W.heap.size := hi3.size
          exact hK _ _ ((below_others hbn).from _) (hbn.mono h1W) ⟨⟨v, hi1.alloc _, hi2.alloc _, trivial⟩, hi3.trans (hbn.mono (by rw [← hNA]; exact h1W))⟩ ⟨W.heap.size, rfl, Blk.new _ _ _⟩
        case body =>
          rintro yl pre x a' W hl0 ⟨rl, hrl0⟩ ⟨⟨v, hv, hrow, _⟩, hB⟩ ⟨q, rfl, hq⟩ hlenp
          dsimp only
          obtain ⟨n, hn⟩ : ∃ n, pre.length = n := ⟨_, rfl⟩
          rw [hn] at hrow hlenp
          obtain ⟨ad, cap, rfl, hc1, hc2, had⟩ := ownsRow_shapeN hrow
          have hcv := hv.cell
          have q0 := hq.cell 0
          have q1 := hq.cell 1
          simp at q0 q1
          have hxs1 := x.1.isLt
          have hxs2 := x.2.1.isLt
          have hrbW : Boxed W RB 4 (.bool false) := (hB.block _ (by rw [← hNA]; exact HRb6.out.lt)).trans HRb6.out
          have hcr := hrbW.cell
          have hfr := hrbW.frozen
          have hbs := hB.size
          have HV := Lib.hid hv; clear hv
          have HROW := Lib.hid hrow; clear hrow
          have HAD := Lib.hid had; clear had
          have HBW := Lib.hid hB; clear hB
          have HQ := Lib.hid hq; clear hq
          have HN := Lib.hid hn; clear hn hrbW
          obtain ⟨XA, hXA⟩ : ∃ X : Int, (x.1.val : Int) = X := ⟨_, rfl⟩
          obtain ⟨XB, hXB⟩ : ∃ X : Int, (x.2.1.val : Int) = X := ⟨_, rfl⟩
          obtain ⟨XV, hXV⟩ : ∃ X : Int, x.2.2 = X := ⟨_, rfl⟩
          rw [hXA] at q0
          rw [hXB] at q1
          rw [hXA, hXB, hXV]
          have hw1 : IntKind.i32.wrap (XA - 1) = XA - 1 := IntWalk.i32_in _ (by omega)
          have HXA := Lib.hid hXA; clear hXA
          have HXB := Lib.hid hXB; clear hXB
          have HXV := Lib.hid hXV; clear hXV
          clear hxs1 hxs2
          gi_upto_region 17 with fail
          gi_cut [114] from 208 (fun s114 wz => ∃ nq, s114 = .bool (tstR pre x) ∧ wz = W.drewN nq)
          case first =>
            by_cases e1 : XV = 0
            · have e1' : (XV == 0) = true := by rw [beq_iff_eq]; exact e1
              have hT : tstR pre x = true := by unfold tstR; rw [decide_eq_true (by rw [HXV.out]; exact e1)]; simp
              have HT9 := Lib.hid hT; clear hT e1
              refine wpIn_region_quiet_round rfl (by kernel_rfl) (by kernel_rfl) (by kernel_rfl) ?_
              repeat (gi_big_quiet_step (fail))
              refine wpQuietIn_nil ?_
              intro _ hw'
              obtain ⟨nq, hw''⟩ := hw'
              subst hw''
              gi_wp2
              gi_meet
              exact ⟨nq, by rw [HT9.out], rfl⟩
            · have e1' : (XV == 0) = false := by rw [← Bool.not_eq_true, beq_iff_eq]; exact e1
              by_cases e2 : XB < XA
              · have e2' : decide (XB < XA) = true := decide_eq_true e2
                have hT : tstR pre x = true := by unfold tstR; rw [decide_eq_true (show x.2.1.val < x.1.val by have := HXA.out; have := HXB.out; omega)]; simp
                have HT9 := Lib.hid hT; clear hT e1
                refine wpIn_region_quiet_round rfl (by kernel_rfl) (by kernel_rfl) (by kernel_rfl) ?_
                repeat (gi_big_quiet_step (fail))
                refine wpQuietIn_nil ?_
                intro _ hw'
                obtain ⟨nq, hw''⟩ := hw'
                subst hw''
                gi_wp2
                gi_meet
                exact ⟨nq, by rw [HT9.out], rfl⟩
              · have e2' : decide (XB < XA) = false := decide_eq_false e2
                have hz1 : decide (x.2.2 = 0) = false := decide_eq_false (by rw [HXV.out]; exact e1)
                have hz2 : decide (x.2.1.val < x.1.val) = false := decide_eq_false (by have := HXA.out; have := HXB.out; omega)
                rcases List.eq_nil_or_concat pre with hLe | ⟨L0, y, hLe⟩
                · have hk0 : decide (0 < n) = false := by have := HN.out; rw [hLe] at this; simp at this; exact decide_eq_false (by omega)
                  have hT : tstR pre x = false := by rw [hLe, tstR_nil, hz1, hz2]; rfl
                  have HT9 := Lib.hid hT; clear hT e1 e2 hz1 hz2 hLe
                  refine wpIn_region_quiet_round rfl (by kernel_rfl) (by kernel_rfl) (by kernel_rfl) ?_
                  repeat (gi_big_quiet_step (fail))
                  refine wpQuietIn_nil ?_
                  intro _ hw'
                  obtain ⟨nq, hw''⟩ := hw'
                  subst hw''
                  gi_wp2
                  gi_meet
                  exact ⟨nq, by rw [HT9.out], rfl⟩
                · rw [List.concat_eq_append] at hLe
                  obtain ⟨k0, hk0⟩ : ∃ k0, L0.length = k0 := ⟨_, rfl⟩
                  have hkk : k0 + 1 = n := by have := HN.out; rw [hLe] at this; simp at this; omega
                  obtain ⟨g, rfl⟩ : ∃ g, ad = some ⟨g, 0, none⟩ := by
                    rcases HAD.out with ⟨_, _, h0⟩ | ⟨g, h, _⟩
                    · omega
                    · exact ⟨g, h⟩
                  have hT : tstR pre x = (decide (x.1.val ≤ y.2.1.val) || decide (y.2.1.val + 1 = x.1.val ∧ y.2.2 = x.2.2)) := by rw [hLe, tstR_snoc, hz1, hz2]; rfl
                  have c1 : W.cell? ⟨g, k0 * 3 + 1, none⟩ = some (.int .i32 (y.2.1.val : Int)) := by
                    rw [HROW.out.cellAt _ (by omega), flat_at cells3_len y pre k0 1 (by rw [HN.out]; omega) (by omega), hLe]
                    simp [hk0, cells3]
                  have c2 : W.cell? ⟨g, k0 * 3 + 2, none⟩ = some (.int .i64 y.2.2) := by
                    rw [HROW.out.cellAt _ (by omega), flat_at cells3_len y pre k0 2 (by rw [HN.out]; omega) (by omega), hLe]
                    simp [hk0, cells3]
                  obtain ⟨YB, hYB⟩ : ∃ X : Int, (y.2.1.val : Int) = X := ⟨_, rfl⟩
                  obtain ⟨YV, hYV⟩ : ∃ X : Int, y.2.2 = X := ⟨_, rfl⟩
                  rw [hYB] at c1
                  rw [hYV] at c2
                  have i1 : (0 : Int) ≤ (k0 : Int) := by omega
                  have i2 : (k0 : Int) < (n : Int) := by omega
                  have i3 : decide (0 < n) = true := decide_eq_true (by omega)
                  have hw2 : IntKind.i64.wrap ((n : Int) - 1) = (k0 : Int) := by rw [IntWalk.i64_in _ (by omega)]; omega
                  have HT9 := Lib.hid hT; clear hT e1 e2 hz1 hz2 hLe
                  have HYB := Lib.hid hYB; clear hYB
                  have HYV := Lib.hid hYV; clear hYV
                  have HKK := Lib.hid hkk; clear hkk hk0
                  by_cases e3 : XA ≤ YB
                  · have e3' : decide (XA ≤ YB) = true := decide_eq_true e3
                    have hU : tstR pre x = true := by rw [HT9.out, decide_eq_true (show x.1.val ≤ y.2.1.val by have := HXA.out; have := HYB.out; omega)]; simp
                    have HU := Lib.hid hU; clear hU e3
                    refine wpIn_region_quiet_round rfl (by kernel_rfl) (by kernel_rfl) (by kernel_rfl) ?_
                    repeat (gi_big_quiet_step (fail))
                    refine wpQuietIn_nil ?_
                    intro _ hw'
                    obtain ⟨nq, hw''⟩ := hw'
                    subst hw''
                    gi_wp2
                    gi_meet
                    exact ⟨nq, by rw [HU.out], rfl⟩
                  · have e3' : decide (XA ≤ YB) = false := decide_eq_false e3
                    have hd3 : decide (x.1.val ≤ y.2.1.val) = false := decide_eq_false (by have := HXA.out; have := HYB.out; omega)
                    by_cases e4 : YB = XA - 1
                    · have e4' : (YB == XA - 1) = true := by rw [beq_iff_eq]; exact e4
                      have hU : tstR pre x = (YV == XV) := by
                        rw [HT9.out, hd3, Bool.false_or, Bool.eq_iff_iff, beq_iff_eq, decide_eq_true_eq, HYV.out, HXV.out]
                        exact ⟨fun h => h.2, fun h => ⟨by have := HXA.out; have := HYB.out; omega, h⟩⟩
                      have HU := Lib.hid hU; clear hU e3 e4 hd3
                      refine wpIn_region_quiet_round rfl (by kernel_rfl) (by kernel_rfl) (by kernel_rfl) ?_
                      repeat (gi_big_quiet_step (fail))
                      refine wpQuietIn_nil ?_
                      intro _ hw'
                      obtain ⟨nq, hw''⟩ := hw'
                      subst hw''
                      gi_wp2
                      gi_meet
                      exact ⟨nq, by rw [HU.out], rfl⟩
                    · have e4' : (YB == XA - 1) = false := by rw [← Bool.not_eq_true, beq_iff_eq]; exact e4
                      have hU : tstR pre x = false := by
                        rw [HT9.out, hd3, Bool.false_or, decide_eq_false (fun h => e4 (by have := HXA.out; have := HYB.out; omega))]
                      have HU := Lib.hid hU; clear hU e3 e4 hd3
                      refine wpIn_region_quiet_round rfl (by kernel_rfl) (by kernel_rfl) (by kernel_rfl) ?_
                      repeat (gi_big_quiet_step (fail))
                      refine wpQuietIn_nil ?_
                      intro _ hw'
                      obtain ⟨nq, hw''⟩ := hw'
                      subst hw''
                      gi_wp2
                      gi_meet
                      exact ⟨nq, by rw [HU.out], rfl⟩
          case rest =>
            obtain ⟨nq, rfl, hwc⟩ := hcut
            have hbc : Below NA w6 wc := by rw [hwc]; exact HBW.out.drewN _
            have hdo : KeepsOthers W wc := by rw [hwc]; exact ⟨Nat.le_refl _, fun _ _ h _ => h⟩
            have hdb : Below NA W wc := by rw [hwc]; exact (Below.refl _ _).drewN _
            have hvc : Boxed wc NA 22 (.slice ad n cap) := by rw [hwc]; exact HV.out
            have hrc : wc.ownsRow NA 33 3 (.slice ad n cap) n (flat cells3 pre) := by rw [hwc]; exact HROW.out
            have hcv' := hvc.cell
            have hq0 : wc.cell? ⟨q, 0, none⟩ = some (.int .i32 XA) := by rw [hwc]; exact q0
            have hq1 : wc.cell? ⟨q, 1, none⟩ = some (.int .i32 XB) := by rw [hwc]; exact q1
            have hcr' : wc.cell? ⟨RB, 0, none⟩ = some (.bool false) := by rw [hwc]; exact hcr
            have hfr' : wc.frozen? ⟨RB, 0, none⟩ = false := by rw [hwc]; exact hfr
            have hsc : NA ≤ wc.heap.size := by have := hbc.size; omega
            have HVC := Lib.hid hvc; clear hvc
            have HRC := Lib.hid hrc; clear hrc
            have HBC := Lib.hid hbc; clear hbc
            have HDO := Lib.hid hdo; clear hdo
            have HDB := Lib.hid hdb; clear hdb
            clear hwc hcv q0 q1 hcr hfr HV HROW HBW
            cases hj : tstR pre x with
            | true =>
              have hnp : ¬ (pre ++ [x]) <+: l := fun hp => by rw [HRun.out.tst hp] at hj; cases hj
              have HNP := Lib.hid hnp; clear hnp hj
              gi_wp2
              exact ownPostG_ret ⟨(HDO.out.trans (KeepsOthers.setCell _ _ _)).from _, HNP.out⟩
            | false =>
              clear hj
              obtain ⟨W1, hW1⟩ : ∃ W1, wc.alloc (.cells #[.int .i32 XA, .int .i32 XB, .int .i64 XV] 33) = W1 := ⟨_, rfl⟩
              have hp1 : Blk W1 wc.heap.size #[.int .i32 XA, .int .i32 XB, .int .i64 XV] 33 := by rw [← hW1]; exact Blk.new _ _ _
              have hr1 : W1.ownsRow NA 33 3 (.slice ad n cap) n (flat cells3 pre) := by rw [← hW1]; exact HRC.out.alloc _
              have hbz : NA ≤ W1.heap.size := by rw [← hW1]; simp; omega
              have hone : ∀ u' ∈ (#[.int .i32 XA, .int .i32 XB, .int .i64 XV] : Array Value).toList, u'.oneCell' = true := by simp [Value.oneCell']
              have hby : (n + 1) * 16 ≤ 140737488355328 := by omega
              have hky : n ≤ 140737488355328 := by omega
              have HP1 := Lib.hid hp1; clear hp1
              have HR1 := Lib.hid hr1; clear hr1
              have HONE := Lib.hid hone; clear hone
              have HW1 := Lib.hid hW1
              have ES := Lib.hid elemS
              gi_wp2_with (first
                | (gi_at_builtin; refine wpListIn_appendN ES.out rfl _ _ rfl NA (.slice ad n cap) n (flat cells3 pre) rfl HR1.out wc.heap.size #[.int .i32 XA, .int .i32 XB, .int .i64 XV] 33 HP1.out rfl rfl HONE.out hby hky hbz ?_; intro g' cap' w2' hown' hgrow
                   obtain ⟨p1, p2, p3, p4, p5⟩ := HVC.out.appended (by decide) HRC.out hsc (Nat.le_refl _) hown' (HW1.out.symm ▸ hgrow)
                   have hc1 := p1.cell
                   have hf1 := p1.frozen
                   go_frame)
                | gi_in)
              have hlen1 : (pre ++ [x]).length = n + 1 := by simp [HN.out]
              have hcx : cells3 x = (#[.int .i32 XA, .int .i32 XB, .int .i64 XV] : Array Value).toList := by unfold cells3; rw [HXA.out, HXB.out, HXV.out]
              refine ownPostG_normal ⟨(HDO.out.trans p4).from _, HDB.out.trans p5, ⟨⟨_, p2, ?_, trivial⟩, HBC.out.trans p5⟩⟩
              rw [hlen1, flat_snoc, hcx]
              exact p3
        case stop =>
          rintro D c pre W _ hp h _
          exact absurd hp h
        case done =>
          rintro D xs W hD hxs ⟨⟨v, hv, hrow, _⟩, hB⟩ hK
          subst hxs
          obtain ⟨n, hn⟩ : ∃ n, xs.length = n := ⟨_, rfl⟩
          rw [hn] at hrow hlen
          obtain ⟨ad, cap, rfl, hc1, hc2, had⟩ := ownsRow_shapeN hrow
          have hcv := hv.cell
          have hTa := HT6.out.keep (Keep.of_below (S := fun _ => False) hB (by rw [hNA])) (fun h => h) (fun h => h)
          have hTb := HTb6.out.keep (Keep.of_below (S := fun _ => False) hB (by rw [hNA])) (fun h => h) (fun h => h)
          have hrbW : Boxed W RB 4 (.bool false) := (hB.block _ (by rw [← hNA]; exact HRb6.out.lt)).trans HRb6.out
          have hBW := HB6.out.trans (hB.mono (by rw [← hNA]; exact h6s))
          gi_wp2_with fail
          go_wp2_with fail
          obtain ⟨nB, hnB⟩ : ∃ q, W.heap.size = q := ⟨_, rfl⟩
          obtain ⟨W8, hW8⟩ : ∃ W8, W.alloc (.cells #[.int .i64 (n : Int)] 3) = W8 := ⟨_, rfl⟩
          have hb8 : Below W.heap.size W W8 := by rw [← hW8]; exact (Below.refl _ _).alloc (Nat.le_refl _) _
          have hnb8 : Boxed W8 nB 3 (.int .i64 (n : Int)) := by rw [← hW8, ← hnB]; exact Boxed.new _ _ _
          have hlv := hv.lt
          have hTal := hTa.blk.lt
          have hTam := hTa.ltm
          have hTbl := hTb.blk.lt
          have hTbm := hTb.ltm
          have hvn := (hTb.ne_blk hv)
          have hbn := (hTb.ne_row hrow (by decide))
          have HTa8 := Lib.hid (hTa.keep (Keep.of_below (S := fun _ => False) hb8 rfl) (fun h => h) (fun h => h))
          have HTb8 := Lib.hid (hTb.keep (Keep.of_below (S := fun _ => False) hb8 rfl) (fun h => h) (fun h => h))
          have hrb8 : Boxed W8 RB 4 (.bool false) := (hb8.block _ hrbW.lt).trans hrbW
          have hv8 : Boxed W8 NA 22 (.slice ad n cap) := (hb8.block _ hv.lt).trans hv
          have hrow8 : W8.ownsRow NA 33 3 (.slice ad n cap) n (flat cells3 xs) := hrow.kept (below_grown hb8) (by cases h : (Value.slice ad n cap).ownBlock <;> simp)
          have hK8 : W8.heap[D]? = some (.deferred (some [])) := (hb8.block _ (Array.getElem?_eq_some_iff.1 hK).1).trans hK
          have hB8 := hBW.trans (hb8.mono hBW.size)
          have hNW : NA ≤ W.heap.size := by have := hB.size; omega
          rw [hW8]
          try rw [hnB]
          rw [hnB] at hlv hTal hTam hTbl hTbm hNW
          obtain ⟨p, hp⟩ : ∃ p : Nat, n = 0 ∨ (p < n ∧ (fr.tmod n + n).tmod n = (p : Int) ∧ -(n : Int) < fr.tmod n ∧ fr.tmod n < n) := by
            by_cases h0 : 0 < n
            · obtain ⟨p, h1, h2, h3, h4⟩ := rot_start fr n h0
              exact ⟨p, .inr ⟨h1, h2, h3, h4⟩⟩
            · exact ⟨0, .inl (by omega)⟩
          have HP := Lib.hid hp; clear hp
          have HN := Lib.hid hn; clear hn
          have HK8 := Lib.hid hK8; clear hK8 hK
          have HRB8 := Lib.hid hrb8; clear hrb8 hrbW
          have HV8 := Lib.hid hv8; clear hv8 hcv
          have HROW8 := Lib.hid hrow8; clear hrow8
          have HNB8 := Lib.hid hnb8; clear hnb8
          have HB8 := Lib.hid hB8; clear hB8 hBW hB
          have HAD := Lib.hid had; clear had
          have hgl : ∀ j, (Value.slice ad n cap).ownBlock = some j → j < nB := fun j e => by rw [← hnB]; exact (hrow.lt j e).2
          clear hW8 hTa hTb hv hrow hb8
          go_loopw [14] (fun s14 wr => ∃ (j2 : Nat) (g : Nat → Int), j2 ≤ n ∧ s14 = .int .i64 j2 ∧ TabAt Try.prog wr bb mb 0 g ∧ Went f g xs p j2 ∧ Keep (fun j => j = mb) W8 wr) (fun s14 _ => n - (intOf s14).toNat)
          case atStart => exact ⟨0, fun _ => 0, Nat.zero_le _, rfl, HTb8.out, Went.start _ _ _, Keep.refl _ _⟩
          case round =>
            obtain ⟨j2, g, hi, rfl, hT, hWent, hk⟩ := hrel
            have hcn := hk.cell HNB8.out.cell (by show ¬ nB = mb; omega)
            have hcs := hk.cell HV8.out.cell (by show ¬ NA = mb; exact fun e => hvn e.symm)
            by_cases hlt : j2 < n
            · obtain ⟨hpn, hpe, hr1, hr2⟩ := HP.out.resolve_left (by omega)
              obtain ⟨g2, rfl⟩ : ∃ g, ad = some ⟨g, 0, none⟩ := by
                rcases HAD.out with ⟨_, _, h0⟩ | ⟨g, h, _⟩
                · omega
                · exact ⟨g, h⟩
              obtain ⟨qi, hqi⟩ : ∃ qi, (p + j2) % n = qi := ⟨_, rfl⟩
              have hqn : qi < n := by rw [← hqi]; exact Nat.mod_lt _ (by omega)
              have hqx : qi < xs.length := by rw [HN.out]; exact hqn
              obtain ⟨s, hs⟩ : ∃ s, xs[qi] = s := ⟨_, rfl⟩
              have hgd : xs.getD qi s = s := by rw [List.getD_eq_getElem?_getD, List.getElem?_eq_getElem hqx, hs]; rfl
              have hg2 : g2 ≠ mb := fun e => hbn.2 (by rw [← e]; rfl)
              have e0 : W8.cell? ⟨g2, qi * 3, none⟩ = some (.int .i32 (s.1.val : Int)) := by
                have := flat_at cells3_len s xs qi 0 hqx (by omega)
                rw [HROW8.out.cellAt _ (by omega), ← Nat.add_zero (qi * 3), this, hgd]; rfl
              have e1 : W8.cell? ⟨g2, qi * 3 + 1, none⟩ = some (.int .i32 (s.2.1.val : Int)) := by rw [HROW8.out.cellAt _ (by omega), flat_at cells3_len s xs qi 1 hqx (by omega), hgd]; rfl
              have e2 : W8.cell? ⟨g2, qi * 3 + 2, none⟩ = some (.int .i64 s.2.2) := by rw [HROW8.out.cellAt _ (by omega), flat_at cells3_len s xs qi 2 hqx (by omega), hgd]; rfl
              have d0 := hk.cell e0 (by show ¬ g2 = mb; exact hg2)
              have d1 := hk.cell e1 (by show ¬ g2 = mb; exact hg2)
              have d2 := hk.cell e2 (by show ¬ g2 = mb; exact hg2)
              have hstep : Went f (setR g s.1.val s.2.1.val s.2.2) xs p (j2 + 1) := hWent.step HRun.out (by rw [HN.out, hqi, List.getElem?_eq_getElem hqx, hs])
              have hsle := (HRun.out.each s (by rw [← hs]; exact List.getElem_mem hqx)).1
              have hss2 := s.2.1.isLt
              obtain ⟨ρ, hρ⟩ : ∃ x, fr.tmod (n : Int) = x := ⟨_, rfl⟩
              rw [hρ] at hpe hr1 hr2
              obtain ⟨σ, hσ⟩ : ∃ x, ρ + (n : Int) = x := ⟨_, rfl⟩
              rw [hσ] at hpe
              have hw1 : IntKind.i64.wrap σ = σ := IntWalk.i64_in _ (by omega)
              have hmi : (IntKind.i64.wrap ((p : Int) + (j2 : Int))).tmod (n : Int) = (qi : Int) := by rw [IntWalk.i64_in _ (by omega), ← hqi, Int.tmod_eq_emod_of_nonneg (by omega), Int.natCast_emod]; rfl
              have hn0 : ¬ n = 0 := by omega
              have i1 : (j2 : Int) < (n : Int) := by omega
              have q0 : (0 : Int) ≤ (qi : Int) := by omega
              have q1 : (qi : Int) < (n : Int) := by omega
              obtain ⟨SA, hSA⟩ : ∃ X, s.1.val = X := ⟨_, rfl⟩
              obtain ⟨SB, hSB⟩ : ∃ X, s.2.1.val = X := ⟨_, rfl⟩
              obtain ⟨SV, hSV⟩ : ∃ X, s.2.2 = X := ⟨_, rfl⟩
              rw [hSA] at d0 hstep hsle
              rw [hSB] at d1 hstep hsle hss2
              rw [hSV] at d2 hstep
              have HSTEP := Lib.hid hstep; clear hstep hWent
              have HT10 := Lib.hid hT.drew; clear hT
              have HKW := Lib.hid hk; clear hk
              clear e0 e1 e2 hgd hs hSA hSB hSV hqi
              go_wp2_with fail
              trace_state
              have hS0 : wr.drew.cell? ⟨NA, 0, none⟩ = some (.slice (some ⟨g2, 0, none⟩) n cap) ∧ wr.drew.cell? ⟨nB, 0, none⟩ = some (.int .i64 (n : Int)) ∧ wr.drew.cell? ⟨g2, qi * 3, none⟩ = some (.int .i32 (SA : Int)) ∧ wr.drew.cell? ⟨g2, qi * 3 + 1, none⟩ = some (.int .i32 (SB : Int)) ∧ wr.drew.cell? ⟨g2, qi * 3 + 2, none⟩ = some (.int .i64 SV) := ⟨hcs, hcn, d0, d1, d2⟩
              refine wp_region_noPanic ?_
              refine wp_region_held_drew (S := fun w' => w'.cell? ⟨NA, 0, none⟩ = some (.slice (some ⟨g2, 0, none⟩) n cap) ∧ w'.cell? ⟨nB, 0, none⟩ = some (.int .i64 (n : Int)) ∧ w'.cell? ⟨g2, qi * 3, none⟩ = some (.int .i32 (SA : Int)) ∧ w'.cell? ⟨g2, qi * 3 + 1, none⟩ = some (.int .i32 (SB : Int)) ∧ w'.cell? ⟨g2, qi * 3 + 2, none⟩ = some (.int .i64 SV)) (by kernel_rfl) hS0 (fun hHeld => ?_)
              clear hS0
              refine wpAnyH_takeD (i := 0) (d := some 131) (v := ?_) rfl rfl (by kernel_rfl) (by kernel_rfl) (by kernel_rfl) (fun _ _ _ h => h) (Or.inl ⟨by rfl, ?_⟩) (by assumption) ?_
              rotate_left
              · intro w hSw; (try dsimp only at hSw); go_simp; all_goals (with_reducible rfl)
              simp only [Act.put, List.setIfInBounds_toArray, List.set_cons_zero, List.set_cons_succ]
              refine wpAnyH_takeD (i := 1) (d := some 132) (v := ?_) rfl rfl (by kernel_rfl) (by kernel_rfl) (by kernel_rfl) (fun _ _ _ h => h) (Or.inl ⟨by rfl, ?_⟩) (by assumption) ?_
              rotate_left
              · intro w hSw; (try dsimp only at hSw); go_simp; all_goals (with_reducible rfl)
              simp only [Act.put, List.setIfInBounds_toArray, List.set_cons_zero, List.set_cons_succ]
              refine wpAnyH_takeD (i := 2) (d := some 133) (v := ?_) rfl rfl (by kernel_rfl) (by kernel_rfl) (by kernel_rfl) (fun _ _ _ h => h) (Or.inl ⟨by rfl, ?_⟩) (by assumption) ?_
              rotate_left
              · intro w hSw; (try dsimp only at hSw); go_simp; all_goals (with_reducible rfl)
              simp only [Act.put, List.setIfInBounds_toArray, List.set_cons_zero, List.set_cons_succ]
              refine wpAnyH_takeD (i := 3) (d := some 134) (v := ?_) rfl rfl (by kernel_rfl) (by kernel_rfl) (by kernel_rfl) (fun _ _ _ h => h) (Or.inl ⟨by rfl, ?_⟩) (by assumption) ?_
              rotate_left
              · intro w hSw; (try dsimp only at hSw); go_simp; all_goals (with_reducible rfl)
              simp only [Act.put, List.setIfInBounds_toArray, List.set_cons_zero, List.set_cons_succ]
              refine wpAnyH_takeD (i := 4) (d := some 135) (v := ?_) rfl rfl (by kernel_rfl) (by kernel_rfl) (by kernel_rfl) (fun _ _ _ h => h) (Or.inl ⟨by rfl, ?_⟩) (by assumption) ?_
              rotate_left
              · intro w hSw; (try dsimp only at hSw); go_simp; all_goals (with_reducible rfl)
              simp only [Act.put, List.setIfInBounds_toArray, List.set_cons_zero, List.set_cons_succ]
              refine wpAnyH_takeD (i := 5) (d := some 136) (v := ?_) rfl rfl (by kernel_rfl) (by kernel_rfl) (by kernel_rfl) (fun _ _ _ h => h) (Or.inl ⟨by rfl, ?_⟩) (by assumption) ?_
              rotate_left
              · intro w hSw; (try dsimp only at hSw); go_simp; all_goals (with_reducible rfl)
              simp only [Act.put, List.setIfInBounds_toArray, List.set_cons_zero, List.set_cons_succ]
              refine wpAnyH_takeD (i := 6) (d := some 137) (v := ?_) rfl rfl (by kernel_rfl) (by kernel_rfl) (by kernel_rfl) (fun _ _ _ h => h) (Or.inl ⟨by rfl, ?_⟩) (by assumption) ?_
              rotate_left
              · intro w hSw; (try dsimp only at hSw); go_simp; all_goals (with_reducible rfl)
              simp only [Act.put, List.setIfInBounds_toArray, List.set_cons_zero, List.set_cons_succ]
              refine wpAnyH_takeD (i := 7) (d := some 138) (v := ?_) rfl rfl (by kernel_rfl) (by kernel_rfl) (by kernel_rfl) (fun _ _ _ h => h) (Or.inl ⟨by rfl, ?_⟩) (by assumption) ?_
              rotate_left
              · intro w hSw; (try dsimp only at hSw); go_simp; all_goals (with_reducible rfl)
              simp only [Act.put, List.setIfInBounds_toArray, List.set_cons_zero, List.set_cons_succ]
              refine wpAnyH_takeD (i := 8) (d := some 139) (v := ?_) rfl rfl (by kernel_rfl) (by kernel_rfl) (by kernel_rfl) (fun _ _ _ h => h) (Or.inl ⟨by rfl, ?_⟩) (by assumption) ?_
              rotate_left
              · intro w hSw; (try dsimp only at hSw); go_simp; all_goals (with_reducible rfl)
              simp only [Act.put, List.setIfInBounds_toArray, List.set_cons_zero, List.set_cons_succ]
              refine wpAnyH_takeD (i := 9) (d := some 140) (v := ?_) rfl rfl (by kernel_rfl) (by kernel_rfl) (by kernel_rfl) (fun _ _ _ h => h) (Or.inl ⟨by rfl, ?_⟩) (by assumption) ?_
              rotate_left
              · intro w hSw; (try dsimp only at hSw); go_simp; all_goals (with_reducible rfl)
              simp only [Act.put, List.setIfInBounds_toArray, List.set_cons_zero, List.set_cons_succ]
              refine wpAnyH_takeD (i := 10) (d := some 141) (v := ?_) rfl rfl (by kernel_rfl) (by kernel_rfl) (by kernel_rfl) (fun _ _ _ h => h) (Or.inl ⟨by rfl, ?_⟩) (by assumption) ?_
              rotate_left
              · intro w hSw; (try dsimp only at hSw); go_simp; all_goals (with_reducible rfl)
              simp only [Act.put, List.setIfInBounds_toArray, List.set_cons_zero, List.set_cons_succ]
              refine wpAnyH_takeD (i := 11) (d := some 142) (v := ?_) rfl rfl (by kernel_rfl) (by kernel_rfl) (by kernel_rfl) (fun _ _ _ h => h) (Or.inl ⟨by rfl, ?_⟩) (by assumption) ?_
              rotate_left
              · intro w hSw; (try dsimp only at hSw); go_simp; all_goals (with_reducible rfl)
              simp only [Act.put, List.setIfInBounds_toArray, List.set_cons_zero, List.set_cons_succ]
              refine wpAnyH_takeD (i := 12) (d := some 143) (v := ?_) rfl rfl (by kernel_rfl) (by kernel_rfl) (by kernel_rfl) (fun _ _ _ h => h) (Or.inl ⟨by rfl, ?_⟩) (by assumption) ?_
              rotate_left
              · intro w hSw; (try dsimp only at hSw); go_simp; all_goals (with_reducible rfl)
              simp only [Act.put, List.setIfInBounds_toArray, List.set_cons_zero, List.set_cons_succ]
              refine wpAnyH_takeD (i := 13) (d := some 144) (v := ?_) rfl rfl (by kernel_rfl) (by kernel_rfl) (by kernel_rfl) (fun _ _ _ h => h) (Or.inl ⟨by rfl, ?_⟩) (by assumption) ?_
              rotate_left
              · intro w hSw; (try dsimp only at hSw); go_simp; all_goals (with_reducible rfl)
              simp only [Act.put, List.setIfInBounds_toArray, List.set_cons_zero, List.set_cons_succ]
              refine wpAnyH_ready (rs := [14]) (by kernel_rfl) (by simp) ?_
              refine AllReadyH.cons (o := _) rfl (fun K hK => ?_) AllReadyH.nil
              go_simp
              obtain ⟨xB, hxB⟩ : ∃ q, wr.heap.size = q := ⟨_, rfl⟩
              obtain ⟨W1, hW1⟩ : ∃ W1, wr.alloc (.cells #[.int .i32 0, .int .i32 0, .int .i64 0] 33) = W1 := ⟨_, rfl⟩
              have hb1 : Below wr.heap.size wr W1 := by rw [← hW1]; exact (Below.refl _ _).alloc (Nat.le_refl _) _
              have hx1 : Blk W1 xB #[.int .i32 0, .int .i32 0, .int .i64 0] 33 := by rw [← hW1, ← hxB]; exact Blk.new _ _ _
              have hS1 : W1.drew.cell? ⟨NA, 0, none⟩ = some (.slice (some ⟨g2, 0, none⟩) n cap) ∧ W1.drew.cell? ⟨nB, 0, none⟩ = some (.int .i64 (n : Int)) ∧ W1.drew.cell? ⟨g2, qi * 3, none⟩ = some (.int .i32 (SA : Int)) ∧ W1.drew.cell? ⟨g2, qi * 3 + 1, none⟩ = some (.int .i32 (SB : Int)) ∧ W1.drew.cell? ⟨g2, qi * 3 + 2, none⟩ = some (.int .i64 SV) :=
                ⟨(hb1.cell (p := ⟨NA, 0, none⟩) (cell_lt hcs)).trans hcs, (hb1.cell (p := ⟨nB, 0, none⟩) (cell_lt hcn)).trans hcn, (hb1.cell (p := ⟨g2, qi * 3, none⟩) (cell_lt d0)).trans d0, (hb1.cell (p := ⟨g2, qi * 3 + 1, none⟩) (cell_lt d1)).trans d1, (hb1.cell (p := ⟨g2, qi * 3 + 2, none⟩) (cell_lt d2)).trans d2⟩
              rw [hW1]
              try rw [hxB]
              refine hK.out _ _ hS1 (fun hHeld => ?_)
              clear hK K hW1 hS1
              try simp only [Act.put, List.setIfInBounds_toArray, List.set_cons_zero, List.set_cons_succ]
              have hxne : NA ≠ xB ∧ nB ≠ xB ∧ g2 ≠ xB ∧ mb ≠ xB ∧ bb ≠ xB := by
                have h1 := cell_lt hcs; have h2 := cell_lt hcn; have h3 := cell_lt d0; have h4 := HT10.out.ltm; have h5 := HT10.out.blk.lt
                have e1 : wr.drew.heap.size = wr.heap.size := rfl
                omega
              have x0 := hx1.cell 0
              have x1 := hx1.cell 1
              have x2 := hx1.cell 2
              simp at x0 x1 x2
              have xf0 := hx1.frozen 0
              have xf1 := hx1.frozen 1
              have xf2 := hx1.frozen 2
              refine wpAnyH_ready (rs := [15]) (by kernel_rfl) (by simp) ?_
              refine AllReadyH.cons (o := _) rfl (fun K hK => ?_) AllReadyH.nil
              go_simp
              obtain ⟨W2, hW2⟩ : ∃ W2, ((W1.setCell ⟨xB, 0, none⟩ (.int .i32 (SA : Int))).setCell ⟨xB, 1, none⟩ (.int .i32 (SB : Int))).setCell ⟨xB, 2, none⟩ (.int .i64 SV) = W2 := ⟨_, rfl⟩
              have hx2 : Blk W2 xB #[.int .i32 (SA : Int), .int .i32 (SB : Int), .int .i64 SV] 33 := by rw [← hW2]; exact ((hx1.set 0 _).set 1 _).set 2 _
              have hk2 : Keep (fun j => j = xB) W1 W2 := by rw [← hW2]; exact ((Keep.of_setCell _ _ _ _).trans (Keep.of_setCell _ _ _ _) (fun _ _ h => h)).trans (Keep.of_setCell _ _ _ _) (fun _ _ h => h)
              have hwx : wr.heap.size ≤ xB := by rw [hxB]; exact Nat.le_refl _
              have hk02 : Keep (fun j => wr.heap.size ≤ j) wr W2 := (Keep.of_below (S := fun j => wr.heap.size ≤ j) hb1 rfl).trans hk2 (fun j hj e => by omega)
              have hT11 := HT10.out.keep (w' := W2.drew) (show Keep (fun j => wr.heap.size ≤ j) wr.drew W2.drew from ⟨hk02.os, hk02.tape, hk02.output, hk02.size, hk02.block⟩) (by have h5 := HT10.out.blk.lt; have e1 : wr.drew.heap.size = wr.heap.size := rfl; omega) (by have h5 := HT10.out.ltm; have e1 : wr.drew.heap.size = wr.heap.size := rfl; omega)
              have hS2 : W2.drew.cell? ⟨NA, 0, none⟩ = some (.slice (some ⟨g2, 0, none⟩) n cap) ∧ W2.drew.cell? ⟨nB, 0, none⟩ = some (.int .i64 (n : Int)) ∧ W2.drew.cell? ⟨g2, qi * 3, none⟩ = some (.int .i32 (SA : Int)) ∧ W2.drew.cell? ⟨g2, qi * 3 + 1, none⟩ = some (.int .i32 (SB : Int)) ∧ W2.drew.cell? ⟨g2, qi * 3 + 2, none⟩ = some (.int .i64 SV) :=
                ⟨hk02.cell hcs (by have := cell_lt hcs; omega), hk02.cell hcn (by have := cell_lt hcn; omega), hk02.cell d0 (by have := cell_lt d0; omega), hk02.cell d1 (by have := cell_lt d1; omega), hk02.cell d2 (by have := cell_lt d2; omega)⟩
              have HX2 := Lib.hid hx2; clear hx2
              have HK02 := Lib.hid hk02; clear hk02 hk2
              have HT11 := Lib.hid hT11; clear hT11
              rw [hW2]
              refine hK.out _ _ hS2 (fun hHeld => ?_)
              clear hK K hW2 hS2 x0 x1 x2 xf0 xf1 xf2 hx1 hb1
              try simp only [Act.put, List.setIfInBounds_toArray, List.set_cons_zero, List.set_cons_succ]
              refine wpAnyH_done (by kernel_rfl) ?_ _
              refine NoPanic.normal ?_
              have y0 := HX2.out.cell 0
              have y1 := HX2.out.cell 1
              have y2 := HX2.out.cell 2
              simp at y0 y1 y2
              clear hHeld
              go_wp2_with fail
              refine (set_ok _ rfl bb mb 0 g SA SB SV W2.drew HT11.out hsle hss2).mono ?_
              rintro e w12 ⟨rfl, hT12, hk12⟩
              have HT12 := Lib.hid hT12; clear hT12
              go_wp2
              go_roundw
              case rel =>
                have k1 : Keep (fun j => j = mb ∨ wr.heap.size ≤ j) wr W2.drew := ⟨HK02.out.os, HK02.out.tape, HK02.out.output, HK02.out.size, fun j h1 h2 => HK02.out.block j h1 (fun h => h2 (.inr h))⟩
                have k2 : Keep (fun j => j = mb ∨ wr.heap.size ≤ j) W2.drew w12 := hk12.weaken (fun _ _ h => .inl h)
                exact ⟨j2 + 1, _, by omega, by go_num, HT12.out, HSTEP.out, HKW.out.trans (k1.trans k2 (fun _ _ h => h)) (fun j hj e => by rcases e with e | e; exact e; have := HKW.out.size; omega)⟩
              case measure => simp [intOf]; omega
            · have hin : j2 = n := by omega
              have i2 : ¬ (j2 : Int) < (n : Int) := by omega
              have hge : ∀ r, r < 1114112 → g r = f r := by
                have hl0 : xs.length = 0 ∨ p < xs.length := by rw [HN.out]; rcases HP.out with h | h; exact .inl h; exact .inr h.1
                refine Went.all (l := xs) (p := p) ?_ HRun.out hl0
                rw [HN.out, ← hin]
                exact hWent
              have HGE := Lib.hid hge; clear hge hWent
              have hTa9 := HTa8.out.keep hk (by show ¬ ba = mb; exact hne1.2.1) (by show ¬ ma = mb; exact hne1.2.2.2)
              have hrb9 : Boxed wr RB 4 (.bool false) := (hk.block _ HRB8.out.lt (by show ¬ RB = mb; exact hne2.2.2.2)).trans HRB8.out
              have hrow9 : wr.ownsRow NA 33 3 (.slice ad n cap) n (flat cells3 xs) := by
                refine ⟨HROW8.out.1, ?_⟩
                rcases HROW8.out.2 with h | ⟨g3, cap3, cur3, h1, h2, h3, h4⟩
                · exact .inl h
                · exact .inr ⟨g3, cap3, cur3, h1, h2, (hk.block g3 (Array.getElem?_eq_some_iff.1 h3).1 (by show ¬ g3 = mb; intro e; exact hbn.2 (by rw [h1, ← e]; rfl))).trans h3, h4⟩
              have hdm : D ≠ mb := fun e => by
                obtain ⟨Dm, ⟨es, clock, hm1, _⟩, _⟩ := HTb8.out.map
                have := HK8.out
                rw [e, hm1] at this
                cases this
              have hK9 : wr.heap[D]? = some (.deferred (some [])) := (hk.block _ (Array.getElem?_eq_some_iff.1 HK8.out).1 (by show ¬ D = mb; exact hdm)).trans HK8.out
              have hB9 := HB8.out.trans (hk.below HB8.out.size (fun j e => by omega))
              have HT9 := Lib.hid hT; clear hT
              have HTa9 := Lib.hid hTa9; clear hTa9
              have HRB9 := Lib.hid hrb9; clear hrb9
              have HROW9 := Lib.hid hrow9; clear hrow9
              have HK9 := Lib.hid hK9; clear hK9
              have HB9 := Lib.hid hB9; clear hB9
              clear HK8 HRB8 HROW8 HV8 HNB8 HB8 HTa8 HTb8 hk HP
              go_wp2_with fail
              refine (all_any bb mb 0 g wr HT9.out).mono ?_
              rintro e w13 ⟨rfl, lB, vl2, vv2, hRunB, hA1, hA2, hA3, hA4, hb13⟩
              obtain rfl : lB = xs := (hRunB.congr fun r hr => (HGE.out r hr).symm).unique HRun.out
              have hAll2 : AllAt w13 wr.heap.size (wr.heap.size + 1) lB := ⟨_, vl2, vv2, hA1, hA2, hA3, hA4⟩
              obtain ⟨A1, hA1e⟩ : ∃ q, wr.heap.size = q := ⟨_, rfl⟩
              rw [hA1e] at hAll2 ⊢
              clear hA1 hA2 hA3 hA4 hA1e hRunB
              have HALL2 := Lib.hid hAll2; clear hAll2
              have hcn13 := (hb13.cell (p := ⟨nB, 0, none⟩) (cell_lt hcn)).trans hcn
              have hcs13 := (hb13.cell (p := ⟨NA, 0, none⟩) (cell_lt hcs)).trans hcs
              have HT13 := Lib.hid (HT9.out.keep (Keep.of_below (S := fun _ => False) hb13 rfl) (fun h => h) (fun h => h))
              have HTa13 := Lib.hid (HTa9.out.keep (Keep.of_below (S := fun _ => False) hb13 rfl) (fun h => h) (fun h => h))
              have HRB13 := Lib.hid (show Boxed w13 RB 4 (.bool false) from (hb13.block _ HRB9.out.lt).trans HRB9.out)
              have HROW13 := Lib.hid (HROW9.out.kept (below_grown hb13) (by cases h : (Value.slice ad n cap).ownBlock <;> simp))
              have HK13 := Lib.hid ((hb13.block _ (Array.getElem?_eq_some_iff.1 HK9.out).1).trans HK9.out)
              have HB13 := Lib.hid (HB9.out.trans (hb13.mono HB9.out.size))
              clear hcn hcs HT9 HTa9 HRB9 HROW9 HK9 HB9 hb13
              go_wp2_with fail
              obtain ⟨kB, hkB⟩ : ∃ q, w13.heap.size = q := ⟨_, rfl⟩
              obtain ⟨W14, hW14⟩ : ∃ W14, w13.alloc (.cells #[.int .i64 0] 3) = W14 := ⟨_, rfl⟩
              have hbA0 : Below w13.heap.size w13 W14 := by rw [← hW14]; exact (Below.refl _ _).alloc (Nat.le_refl _) _
              have hkb : Boxed W14 kB 3 (.int .i64 0) := by rw [← hW14, ← hkB]; exact Boxed.new _ _ _
              have hs14 : W14.heap.size = kB + 1 := by rw [← hW14, ← hkB]; simp
              have hl1 := cell_lt hcn13
              have hl2 := cell_lt hcs13
              have hl3 := HRB13.out.lt
              have hl4 := HT13.out.blk.lt
              have hl5 := HT13.out.ltm
              have hl6 := HTa13.out.blk.lt
              have hl7 := HTa13.out.ltm
              have hncc := (hbA0.cell (p := ⟨nB, 0, none⟩) hl1).trans hcn13
              have hspc := (hbA0.cell (p := ⟨NA, 0, none⟩) hl2).trans hcs13
              have hrbc : Boxed W14 RB 4 (.bool false) := (hbA0.block _ hl3).trans HRB13.out
              have hrowc : W14.ownsRow NA 33 3 (.slice ad n cap) n (flat cells3 lB) := HROW13.out.kept (below_grown hbA0) (by cases h : (Value.slice ad n cap).ownBlock <;> simp)
              have hgl : ∀ j, (Value.slice ad n cap).ownBlock = some j → j < kB := fun j e => by rw [← hkB]; exact (HROW13.out.lt j e).2
              have HROWc := Lib.hid hrowc; clear hrowc
              have HT14 := Lib.hid (HT13.out.keep (Keep.of_below (S := fun _ => False) hbA0 rfl) (fun h => h) (fun h => h))
              have HTa14 := Lib.hid (HTa13.out.keep (Keep.of_below (S := fun _ => False) hbA0 rfl) (fun h => h) (fun h => h))
              have HK14 := Lib.hid ((hbA0.block _ (Array.getElem?_eq_some_iff.1 HK13.out).1).trans HK13.out)
              have HB14 := Lib.hid (HB13.out.trans (hbA0.mono HB13.out.size))
              have hk1 : lB.length = n := HN.out
              rw [hW14]
              try rw [hkB]
              rw [hkB] at hl1 hl2 hl3 hl4 hl5 hl6 hl7
              clear hW14 hcn13 hcs13
              refine (wpIn_wide (n := 9)).1 ?_
              refine wpIn_rangeFunc_ownH (F := Fence.wide) rfl (by omega) (gf := 30) (lb := #[.pointer (some ⟨A1, 0, none⟩), .pointer (some ⟨A1 + 1, 0, none⟩)]) rfl trivial (enters_of Try.func30 (by kernel_rfl) rfl)
                (all_stops 8 (by omega) A1 (A1 + 1) lB w13 HALL2.out (by rw [hk1]; exact hlen)) (fun h k => h.trans k) (belowN_b (by rw [hs14]; omega)) hbA0 (fun _ => rfl)
                (fun pre W => SameI kB W14 pre W ∧ pre = lB.take pre.length)
                (fun _ pre _ => ¬ pre <+: lB)
                (OwnFrom.and (sameI_from _ _ _ (Nat.le_refl _)) (pre_from _ _))
                (fun _ _ _ _ _ hs _ _ => hs)
                ⟨⟨hkb, Keep.refl _ _⟩, by simp⟩
                (fun x a' W => ∃ q, a' = { tmps := #[.slice va ss.length vc, .int .i64 fr, undef, undef, .pointer (some ⟨RB, 0, none⟩), .pointer (some ⟨ba, 0, none⟩), .pointer (some ⟨bb, 0, none⟩), .int .i64 (i : Int), .func (.func 30) #[] #[.pointer (some ⟨A0, 0, none⟩), .pointer (some ⟨A0 + 1, 0, none⟩)], .pointer (some ⟨NA, 0, none⟩), undef, undef, undef, .pointer (some ⟨nB, 0, none⟩), .int .i64 (n : Int), u15, .func (.func 30) #[] #[.pointer (some ⟨A1, 0, none⟩), .pointer (some ⟨A1 + 1, 0, none⟩)], .pointer (some ⟨kB, 0, none⟩), .pointer (some ⟨q, 0, none⟩), .int .i64 x.2.2, .pointer (some ⟨ba, 0, none⟩), .pointer (some ⟨bb, 0, none⟩), .pointer (some ⟨ba, 0, none⟩), .bool false, .bool false, .pointer (some ⟨bb, 0, none⟩), .bool false, .bool false, .bool false, .slice va ss.length vc, .bool false, .bool false, undef, undef, undef, undef, undef, .int .i64 (i : Int), .slice va ss.length vc, .int .i64 (ss.length : Int), .bool false, u41, u42, u43, u44, u45, u46, u47, u48, u49, u50, u51, u52, u53, u54, u55, u56, u57, u58, u59, .pointer (some ⟨ba, 0, none⟩), .func (.func 30) #[] #[.pointer (some ⟨A0, 0, none⟩), .pointer (some ⟨A0 + 1, 0, none⟩)], .func (.func 30) #[] #[.pointer (some ⟨A0, 0, none⟩), .pointer (some ⟨A0 + 1, 0, none⟩)], .bool false, .func (.func 30) #[] #[.pointer (some ⟨A0, 0, none⟩), .pointer (some ⟨A0 + 1, 0, none⟩)], undef, undef, undef, undef, undef, undef, undef, undef, undef, undef, undef, undef, undef, undef, undef, undef, undef, undef, undef, undef, undef, undef, undef, undef, undef, undef, undef, undef, undef, undef, undef, undef, undef, undef, undef, undef, undef, undef, undef, undef, undef, undef, undef, undef, undef, undef, undef, undef, undef, undef, undef, undef, undef, undef, undef, undef, undef, undef, undef, .slice ad n cap, .int .i64 (n : Int), .int .i64 (n : Int), .int .i64 (n : Int), .bool false, u129, u130, u131, u132, u133, u134, u135, u136, u137, u138, u139, u140, u141, u142, u143, u144, u145, u146, u147, u148, u149, u150, u151, u152, u153, .pointer (some ⟨bb, 0, none⟩), .func (.func 30) #[] #[.pointer (some ⟨A1, 0, none⟩), .pointer (some ⟨A1 + 1, 0, none⟩)], .func (.func 30) #[] #[.pointer (some ⟨A1, 0, none⟩), .pointer (some ⟨A1 + 1, 0, none⟩)], .bool false, .func (.func 30) #[] #[.pointer (some ⟨A1, 0, none⟩), .pointer (some ⟨A1 + 1, 0, none⟩)], .agg #[.int .i32 (x.1.val : Int), .int .i32 (x.2.1.val : Int)], .int .i64 x.2.2, undef, undef, undef, undef, undef, undef, undef, undef, undef, undef, undef, undef, undef, undef, undef, undef, undef, undef, undef, undef, undef, undef, undef, undef, undef, undef, undef, undef, undef, undef, undef, undef, undef, undef, undef, undef, undef, undef, undef, undef, undef, undef, undef, undef, undef, undef, undef], defers := [] } ∧ Blk W q #[.int .i32 (x.1.val : Int), .int .i32 (x.2.1.val : Int)] 39)
                (fun x a' => by rintro _ W W' row ⟨q, rfl, h1⟩ hg hr; exact ⟨q, rfl, blk_abides h1 hg (fun r e => (hr r e).2)⟩) ?assign ?body ?done ?stop
              case assign =>
                intro yl pre x W K hi hK
                unfold encP
                obtain ⟨⟨xa, hxa⟩, ⟨xb, hxb⟩, xv⟩ := x
                gi_wp2
                have hbn : Below W.heap.size W (W.alloc (.cells #[.int .i32 (xa : Int), .int .i32 (xb : Int)] 39)) := (Below.refl _ _).alloc (Nat.le_refl _) _
                obtain ⟨⟨hi1, hi2⟩, hi3⟩ := hi
                have h1W : w13.heap.size ≤ W.heap.size := Nat.le_trans hbA0.size hi2.size
                exact hK _ _ ((below_others hbn).from _) (hbn.mono h1W) ⟨⟨hi1.alloc _, hi2.trans (Keep.of_below hbn rfl) (fun _ _ h => h)⟩, hi3⟩ ⟨W.heap.size, rfl, Blk.new _ _ _⟩
              case body =>
                rintro yl pre x a' W hl0 ⟨rl, hrl0⟩ ⟨⟨hnW, hkW⟩, hpre⟩ ⟨q, rfl, hq⟩ hlenp
                dsimp only
                obtain ⟨j, hj⟩ : ∃ j, pre.length = j := ⟨_, rfl⟩
                rw [hj] at hnW hpre hlenp
                have hjk : j < n := by rw [← hk1]; exact hlenp
                obtain ⟨g0, rfl⟩ : ∃ g, ad = some ⟨g, 0, none⟩ := by
                  rcases HAD.out with ⟨_, _, h0⟩ | ⟨g, h, _⟩
                  · omega
                  · exact ⟨g, h⟩
                have hgq := hgl g0 rfl
                obtain ⟨y, hy⟩ : ∃ y, lB[j] = y := ⟨_, rfl⟩
                have hgd : lB.getD j y = y := by rw [List.getD_eq_getElem?_getD, List.getElem?_eq_getElem hlenp, hy]; rfl
                have hcellW : ∀ o u, W14.cell? ⟨g0, o, none⟩ = some u → W.cell? ⟨g0, o, none⟩ = some u := fun o u h => hkW.cell h (by show ¬ g0 = kB; omega)
                have c0 := hcellW (j * 3) (.int .i32 (y.1.val : Int)) (by
                  have := flat_at cells3_len y lB j 0 hlenp (by omega)
                  rw [HROWc.out.cellAt _ (by omega), ← Nat.add_zero (j * 3), this, hgd]; rfl)
                have c1 := hcellW (j * 3 + 1) (.int .i32 (y.2.1.val : Int)) (by rw [HROWc.out.cellAt _ (by omega), flat_at cells3_len y lB j 1 hlenp (by omega), hgd]; rfl)
                have c2 := hcellW (j * 3 + 2) (.int .i64 y.2.2) (by rw [HROWc.out.cellAt _ (by omega), flat_at cells3_len y lB j 2 hlenp (by omega), hgd]; rfl)
                have hcw : W.cell? ⟨NA, 0, none⟩ = some (.slice (some ⟨g0, 0, none⟩) n cap) := hkW.cell hspc (by show ¬ NA = kB; omega)
                have hcnn : W.cell? ⟨nB, 0, none⟩ = some (.int .i64 (n : Int)) := hkW.cell hncc (by show ¬ nB = kB; omega)
                have hcn := hnW.cell
                have hfn := hnW.frozen
                have q0 := hq.cell 0
                have q1 := hq.cell 1
                simp at q0 q1
                have hrbW : Boxed W RB 4 (.bool false) := (hkW.block _ hrbc.lt (by show ¬ RB = kB; omega)).trans hrbc
                have hcr := hrbW.cell
                have hfr := hrbW.frozen
                have i0 : (0 : Int) ≤ (j : Int) := by omega
                have i1 : (j : Int) < (n : Int) := by omega
                have i2 : decide (n ≤ j) = false := decide_eq_false (by omega)
                have hxy : x.1.val = y.1.val → x.2.1.val = y.2.1.val → x.2.2 = y.2.2 → x = y := fun h1 h2 h3 => Prod.ext (Fin.ext h1) (Prod.ext (Fin.ext h2) h3)
                have hnp : x ≠ y → ¬ (pre ++ [x]) <+: lB := fun hne hp => by
                  obtain ⟨r, hr⟩ := hp
                  have h1 : lB[j]? = some x := by rw [← hr, ← hj]; simp
                  rw [List.getElem?_eq_getElem hlenp, hy] at h1
                  exact hne (Option.some.inj h1).symm
                have hsz1 : w13.heap.size ≤ W.heap.size := Nat.le_trans hbA0.size hkW.size
                obtain ⟨XA, hXA⟩ : ∃ X : Int, (x.1.val : Int) = X := ⟨_, rfl⟩
                obtain ⟨XB, hXB⟩ : ∃ X : Int, (x.2.1.val : Int) = X := ⟨_, rfl⟩
                obtain ⟨XV, hXV⟩ : ∃ X : Int, x.2.2 = X := ⟨_, rfl⟩
                obtain ⟨YA, hYA⟩ : ∃ X : Int, (y.1.val : Int) = X := ⟨_, rfl⟩
                obtain ⟨YB, hYB⟩ : ∃ X : Int, (y.2.1.val : Int) = X := ⟨_, rfl⟩
                obtain ⟨YV, hYV⟩ : ∃ X : Int, y.2.2 = X := ⟨_, rfl⟩
                rw [hXA] at q0
                rw [hXB] at q1
                rw [hYA] at c0
                rw [hYB] at c1
                rw [hYV] at c2
                rw [hXA, hXB, hXV]
                have hxy' : XA = YA → XB = YB → XV = YV → x = y := fun h1 h2 h3 => hxy (by omega) (by omega) (by rw [hXV, hYV, h3])
                have hne : (XA ≠ YA ∨ XB ≠ YB ∨ XV ≠ YV) → ¬ (pre ++ [x]) <+: lB := fun h => hnp fun e => by subst e; rcases h with h | h | h <;> first | omega | exact h (by rw [← hXV, ← hYV])
                have HXY := Lib.hid hxy'; clear hxy' hxy
                have HNE := Lib.hid hne; clear hne hnp
                have HNW := Lib.hid hnW; clear hnW
                have HKW := Lib.hid hkW; clear hkW
                have HPRE := Lib.hid (And.intro hj (And.intro hpre hy)); clear hj hpre hy
                have HQ := Lib.hid hq; clear hq
                clear hgd hcellW hXA hXB hXV hYA hYB hYV hrbW
                gi_upto_region 34 with fail
                by_cases e1 : XA = YA
                · have e1' : (YA != XA) = false := by rw [e1]; simp
                  by_cases e2 : XB = YB
                  · have e2' : (YB != XB) = false := by rw [e2]; simp
                    by_cases e3 : XV = YV
                    · have e3' : (YV != XV) = false := by rw [e3]; simp
                      have hx := HXY.out e1 e2 e3
                      clear e1 e2 e3
                      refine wpIn_region_quiet_round rfl (by kernel_rfl) (by kernel_rfl) (by kernel_rfl) ?_
                      repeat (gi_big_quiet_step (fail))
                      refine wpQuietIn_nil ?_
                      intro _ hw'
                      obtain ⟨nq, hw''⟩ := hw'
                      subst hw''
                      gi_wp2
                      obtain ⟨hj, hpre, hy⟩ := HPRE.out
                      have hk5 : Keep (fun i => i = kB) W ((W.drewN nq).setCell ⟨kB, 0, none⟩ (.int .i64 ((j : Int) + 1))) := (Keep.of_drewN _ W nq).trans (Keep.of_setCell _ _ _ _) (fun _ _ h => h)
                      have hbx : Boxed (W.drewN nq) (kB) 3 (.int .i64 (j : Int)) := HNW.out
                      refine ownPostG_normal ⟨((⟨Nat.le_refl _, fun _ _ h _ => h⟩ : KeepsOthers W (W.drewN nq)).trans (KeepsOthers.setCell _ _ _)).from _, hk5.below hsz1 (fun i hi => by omega), ⟨?_, HKW.out.trans hk5 (fun _ _ h => h)⟩, ?_⟩
                      · have := hbx.set (.int .i64 ((j : Int) + 1))
                        have e : ((pre ++ [x]).length : Int) = (j : Int) + 1 := by simp [hj]
                        rw [e]; exact this
                      · have e : (pre ++ [x]).length = j + 1 := by simp [hj]
                        rw [e, List.take_succ_eq_append_getElem hlenp, ← hpre, hy, hx]
                    · have e3' : (YV != XV) = true := by simpa using fun h => e3 h.symm
                      have hE := HNE.out (.inr (.inr e3))
                      clear e1 e2 e3
                      refine wpIn_region_quiet_round rfl (by kernel_rfl) (by kernel_rfl) (by kernel_rfl) ?_
                      repeat (gi_big_quiet_step (fail))
                      refine wpQuietIn_nil ?_
                      intro _ hw'
                      obtain ⟨nq, hw''⟩ := hw'
                      subst hw''
                      gi_wp2
                      exact ownPostG_ret ⟨((⟨Nat.le_refl _, fun _ _ h _ => h⟩ : KeepsOthers W (W.drewN nq)).trans (KeepsOthers.setCell _ _ _)).from _, hE⟩
                  · have e2' : (YB != XB) = true := by simpa using fun h => e2 h.symm
                    have hE := HNE.out (.inr (.inl e2))
                    clear e1 e2
                    refine wpIn_region_quiet_round rfl (by kernel_rfl) (by kernel_rfl) (by kernel_rfl) ?_
                    repeat (gi_big_quiet_step (fail))
                    refine wpQuietIn_nil ?_
                    intro _ hw'
                    obtain ⟨nq, hw''⟩ := hw'
                    subst hw''
                    gi_wp2
                    exact ownPostG_ret ⟨((⟨Nat.le_refl _, fun _ _ h _ => h⟩ : KeepsOthers W (W.drewN nq)).trans (KeepsOthers.setCell _ _ _)).from _, hE⟩
                · have e1' : (YA != XA) = true := by simpa using fun h => e1 h.symm
                  have hE := HNE.out (.inl e1)
                  clear e1
                  refine wpIn_region_quiet_round rfl (by kernel_rfl) (by kernel_rfl) (by kernel_rfl) ?_
                  repeat (gi_big_quiet_step (fail))
                  refine wpQuietIn_nil ?_
                  intro _ hw'
                  obtain ⟨nq, hw''⟩ := hw'
                  subst hw''
                  gi_wp2
                  exact ownPostG_ret ⟨((⟨Nat.le_refl _, fun _ _ h _ => h⟩ : KeepsOthers W (W.drewN nq)).trans (KeepsOthers.setCell _ _ _)).from _, hE⟩
              case stop =>
                rintro D c pre W _ hp h _
                exact absurd hp h
              case done =>
                rintro D2 xs W hD2 hxs ⟨⟨hnW, hkW⟩, _⟩ hKD2
                subst hxs
                rw [hk1] at hnW
                have hT15 := HT14.out.keep hkW (by show ¬ bb = kB; omega) (by show ¬ mb = kB; omega)
                have hTa15 := HTa14.out.keep hkW (by show ¬ ba = kB; omega) (by show ¬ ma = kB; omega)
                have hrb15 : Boxed W RB 4 (.bool false) := (hkW.block _ hrbc.lt (by show ¬ RB = kB; omega)).trans hrbc
                have hn15 : W.cell? ⟨nB, 0, none⟩ = some (.int .i64 (n : Int)) := hkW.cell hncc (by show ¬ nB = kB; omega)
                have hk15 := hnW.cell
                have hDk : D ≠ kB := fun e => by
                  have h1 : W14.heap[kB]? = some (.cells #[.int .i64 0] 3 (0, 0)) := hkb
                  rw [← e, HK14.out] at h1
                  cases h1
                have hD15 : W.heap[D]? = some (.deferred (some [])) := (hkW.block _ (Array.getElem?_eq_some_iff.1 HK14.out).1 (by show ¬ D = kB; exact hDk)).trans HK14.out
                have hwB : w.heap.size ≤ kB := by have := HB13.out.size; omega
                have hB15 := HB14.out.trans (hkW.below HB14.out.size (fun j e => by omega))
                have hD12 : D ≠ D2 := fun e => by have := (Array.getElem?_eq_some_iff.1 HK14.out).1; omega
                have hcb : cntB 0 f = cntB 0 g := by
                  unfold cntB
                  refine count_same _ _ _ fun a ha => ?_
                  rw [Bool.eq_iff_iff, apartB_iff, apartB_iff]
                  constructor <;> (rintro ⟨j, hj, hne⟩; refine ⟨j, hj, ?_⟩)
                  · rw [← HGE.out _ (by omega)]; exact hne
                  · rw [HGE.out _ (by omega)]; exact hne
                have HCB := Lib.hid hcb; clear hcb
                have HT15 := Lib.hid hT15; clear hT15
                have HTa15 := Lib.hid hTa15; clear hTa15
                have HRB15 := Lib.hid hrb15; clear hrb15
                have HD15 := Lib.hid hD15; clear hD15
                have HD2 := Lib.hid hKD2; clear hKD2
                have HB15 := Lib.hid hB15; clear hB15
                clear hnW hkW hncc hspc hrbc hkb HT14 HTa14 HK14 HB14
                gi_wp2_with fail
                go_wp2_with fail
                refine (blocks_any _ rfl ba ma 0 f W HTa15.out).mono ?_
                rintro e w16 ⟨rfl, hw16⟩
                rw [← hw16, HCB.out]
                clear hw16
                go_wp2_with fail
                refine (blocks_any _ rfl bb mb 0 g W HT15.out).mono ?_
                rintro e w17 ⟨rfl, hw17⟩
                rw [← hw17]
                clear hw17
                go_wp2_with fail
                refine (awake_any W).mono ?_
                rintro e w18 ⟨rfl, hb18⟩
                have hB18 := HB15.out.trans (hb18.mono HB15.out.size)
                have hrb18 : Boxed w18 RB 4 (.bool false) := (hb18.block _ HRB15.out.lt).trans HRB15.out
                have hrc := hrb18.cell
                have hrf := hrb18.frozen
                have HRB18 := Lib.hid hrb18; clear hrb18
                have HB18 := Lib.hid hB18; clear hB18
                go_wp2
                have hDlt := (Array.getElem?_eq_some_iff.1 HD15.out).1
                have hD2lt := (Array.getElem?_eq_some_iff.1 HD2.out).1
                have hDr : D ≠ RB := fun e => by have := HD15.out; rw [e, show W.heap[RB]? = _ from HRB15.out] at this; cases this
                have hD2r : D2 ≠ RB := fun e => by have := HD2.out; rw [e, show W.heap[RB]? = _ from HRB15.out] at this; cases this
                have hrb19 := HRB18.out.set (.bool true)
                obtain ⟨V, hV⟩ : ∃ V, w18.setCell ⟨RB, 0, none⟩ (.bool true) = V := ⟨_, rfl⟩
                have hVD2 : V.heap[D2]? = some (.deferred (some [])) := by rw [← hV]; exact (Below.heap_setCell _ _ _ _ hD2r).trans ((hb18.block D2 hD2lt).trans HD2.out)
                have hVD : V.heap[D]? = some (.deferred (some [])) := by rw [← hV]; exact (Below.heap_setCell _ _ _ _ hDr).trans ((hb18.block D hDlt).trans HD15.out)
                have hRw : w.heap.size ≤ RB := by rw [HRB.out]; exact Nat.le_refl _
                have hVB : Below w.heap.size w V := by rw [← hV]; exact HB18.out.setCell (p := ⟨RB, 0, none⟩) hRw _
                rw [hV] at hrb19 ⊢
                have hVD' : (V.putObj D2 (.deferred none)).heap[D]? = some (.deferred (some [])) := (World.putObj_heap_other hD12).trans hVD
                refine ⟨by simp, .inl ⟨_, _, rfl, run_takeDeferred hVD2, ?_⟩⟩
                refine ⟨by simp, .inl ⟨_, _, rfl, run_takeDeferred hVD', ?_⟩⟩
                have hrb20 : Boxed ((V.putObj D2 (.deferred none)).putObj D (.deferred none)) RB 4 (.bool true) := (World.putObj_heap_other (fun e => hDr e.symm)).trans ((World.putObj_heap_other (fun e => hD2r e.symm)).trans hrb19)
                refine ⟨_, results_cell1 (a := ⟨RB, 0, none⟩) rfl rfl (by simp [loadVar, Try.isAgg4, go_sem, hrb20.cell]), rfl, ?_⟩
                have hbD2 := belowK_b (w := w) (Nat.le_refl _) V D2 (.deferred (some [])) (.deferred none) (by omega) hVD2 rfl rfl
                have hbD := belowK_b (w := w) (Nat.le_refl _) (V.putObj D2 (.deferred none)) D (.deferred (some [])) (.deferred none) (by omega) hVD' rfl rfl
                exact (hVB.trans hbD2).trans hbD

end Go.Proofs.Ytkpkcimghkmkfaa
