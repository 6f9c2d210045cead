/-
  The law TriePlays, walked.
-/
import Derived.Test.YtkpkcimghkmkfaaTrU
namespace Go.Proofs.Ytkpkcimghkmkfaa
open Go.RowKit Go.Shelf

def FewB (n : Nat) (e : Ending) : Prop := ∃ t : Bool, e = .returned (.bool t) ∧ (t = false → n ≤ 40)
set_option maxRecDepth 100000 in
set_option maxHeartbeats 4000000 in
theorem wide_few (v : Value) (ss : List (Int × Int × Int)) (w : World) (h : RdSp w v ss) :
    Calls Try.prog 10 #[v] w fun e w' => FewB ss.length e ∧ Below w.heap.size w w' := by
  obtain ⟨a, cap, rfl, h1, h2, h3⟩ := h
  have HS := Lib.hid h3; clear h3
  go_enter Try.func10, Try.ntmps10
  go_wp2
  go_loopw [3, 4] (fun s3 s4 wr => ∃ (n : Int) (k : Nat), k ≤ ss.length ∧ s3 = .int .i64 n ∧ s4 = .int .i64 k ∧ Below w.heap.size w wr) (fun _ s4 _ => ss.length - (intOf s4).toNat)
  case atStart => exact ⟨0, 0, Nat.zero_le _, rfl, rfl, Below.refl _ _⟩
  case round =>
    obtain ⟨n, k, hk, rfl, rfl, hbl⟩ := hrel
    by_cases hlt : k < ss.length
    · rcases HS.out with hnil | ⟨b, o, rfl, hc⟩
      · rw [hnil] at hlt; simp at hlt
      obtain ⟨c1, c2, c3, r1, r2, r3, r4⟩ := hc k hlt
      clear hc
      obtain ⟨⟨fr, up, vv⟩, hs⟩ : ∃ s, ss.getD k (0, 0, 0) = s := ⟨_, rfl⟩
      rw [hs] at c1 c2 c3 r1 r2 r3 r4
      dsimp only at c1 c2 c3 r1 r2 r3 r4
      have d1 : wr.cell? ⟨b, o + k * 3, none⟩ = some (.int .i32 fr) := (hbl.cell (p := ⟨b, o + k * 3, none⟩) (cell_lt c1)).trans c1
      have d2 : wr.cell? ⟨b, o + k * 3 + 1, none⟩ = some (.int .i32 up) := (hbl.cell (p := ⟨b, o + k * 3 + 1, none⟩) (cell_lt c2)).trans c2
      clear c1 c2 c3 hs
      have i1 : (0 : Int) ≤ (k : Int) := by omega
      have i2 : (k : Int) < (ss.length : Int) := by omega
      by_cases g1 : 0 ≤ fr
      · have e1 : decide (0 ≤ fr) = true := decide_eq_true g1
        by_cases g2 : up ≤ 1114111
        · have e2 : decide (up ≤ 1114111) = true := decide_eq_true g2
          by_cases g3 : fr ≤ up
          · have e3 : decide (fr ≤ up) = true := decide_eq_true g3
            have hw : IntKind.i32.wrap (up - fr) = up - fr := IntWalk.i32_in _ (by omega)
            go_wp2
            go_quiet (fail)
            go_wp2
            go_quiet (fail)
            go_wp2
            go_roundw
            case rel => exact ⟨_, k + 1, by omega, rfl, by go_num, hbl.drewN _⟩
            case measure => simp [intOf]; omega
          · have e3 : decide (fr ≤ up) = false := decide_eq_false g3
            go_wp2
            go_quiet (fail)
            go_wp2
            go_roundw
            case rel => exact ⟨_, k + 1, by omega, rfl, by go_num, hbl.drewN _⟩
            case measure => simp [intOf]; omega
        · have e2 : decide (up ≤ 1114111) = false := decide_eq_false g2
          go_wp2
          go_quiet (fail)
          go_wp2
          go_roundw
          case rel => exact ⟨_, k + 1, by omega, rfl, by go_num, hbl.drewN _⟩
          case measure => simp [intOf]; omega
      · have e1 : decide (0 ≤ fr) = false := decide_eq_false g1
        go_wp2
        go_quiet (fail)
        go_wp2
        go_roundw
        case rel => exact ⟨_, k + 1, by omega, rfl, by go_num, hbl.drewN _⟩
        case measure => simp [intOf]; omega
    · have hend : ¬ (k : Int) < (ss.length : Int) := by omega
      by_cases h40 : 40 < ss.length
      · have g40 : (40 : Int) < (ss.length : Int) := by omega
        go_wp2
        go_ret
        exact ⟨⟨_, rfl, fun h => by simp at h⟩, hbl⟩
      · have g40 : ¬ (40 : Int) < (ss.length : Int) := by omega
        go_wp2
        go_ret
        exact ⟨⟨_, rfl, fun _ => by omega⟩, hbl⟩

theorem TabAt.ne_row {w : World} {b m : Nat} {z : Int} {f : Nat → Int} {B e sz n : Nat} {v : Value} {xs : List Value} (h : TabAt Try.prog w b m z f) (hr : w.ownsRow B e sz v n xs) (he : e ≠ 58) : v.ownBlock ≠ some b ∧ v.ownBlock ≠ some m := by
  refine ⟨(blk_ne_row h.blk hr (fun e' => he e'.symm)).symm, fun e' => ?_⟩
  obtain ⟨D, ⟨es, clock, h1, _⟩, _⟩ := h.map
  rcases hr.2 with ⟨rfl, _⟩ | ⟨g, cap, cur, rfl, _, hgb, _⟩
  · simp [Value.ownBlock] at e'
  · obtain rfl : g = m := by simpa [Value.ownBlock] using e'
    rw [hgb] at h1; cases h1
theorem TabAt.ne_blk {w : World} {b m : Nat} {z : Int} {f : Nat → Int} {p T : Nat} {cs : Array Value} (h : TabAt Try.prog w b m z f) (hp : Blk w p cs T) : m ≠ p := by
  rintro rfl
  obtain ⟨D, ⟨es, clock, h1, _⟩, _⟩ := h.map
  rw [show w.heap[m]? = _ from hp] at h1; cases h1

theorem setF2_addV {z : Int} {f : Nat → Int} {L : List Pc} (h : ∀ r, r < 1114112 → f r = refF z L r) (a t x : Int) : ∀ r, r < 1114112 → setF2 f a t x r = refF z (addV L (a, t, x)) r := by
  intro r hr
  by_cases hok : 0 ≤ a ∧ t ≤ 1114111 ∧ a ≤ t
  · obtain ⟨s, h1, h2, h3, h4⟩ := addV_ok L a t x hok
    rw [h4, refF_snoc]
    unfold setF2
    rw [if_pos hok, h1, h2, h3]
    unfold setR
    split
    · rfl
    · exact h r hr
  · rw [addV_bad L a t x hok]
    unfold setF2
    rw [if_neg hok]
    exact h r hr

set_option maxRecDepth 100000 in
set_option maxHeartbeats 8000000 in
theorem plays_walk (z : Int) (vl : Value) (ss : List (Int × Int × Int)) (w : World) (hl : RdSp w vl ss) :
    Calls Try.prog 3 #[.int .i64 z, vl] w fun e w' => e = .returned (.bool true) ∧ Below w.heap.size w w' := by
  obtain ⟨va, vc, rfl, hl1, hl2, hl3⟩ := id hl
  have HL := Lib.hid hl; clear hl
  have HL3 := Lib.hid hl3; clear hl3
  go_enter Try.func3, Try.ntmps3
  go_wp2_with fail
  refine (new_any _ rfl z w).mono ?_
  rintro e w1 ⟨b, m, rfl, hbW, hmW, hT, hb1⟩
  have HT := Lib.hid hT; clear hT
  go_wp2_with fail
  refine (wide_few _ ss w1 (HL.out.mono hb1 rfl)).mono ?_
  rintro e w2 ⟨⟨t1, rfl, h40⟩, hb2⟩
  have hbb2 := hb1.trans (hb2.mono hb1.size)
  cases t1 with
  | true =>
    go_wp2_with fail
    refine (awake_any _).mono ?_
    rintro e w3 ⟨rfl, hb3⟩
    go_wp2
    go_ret
    exact ⟨rfl, hbb2.trans (hb3.mono hbb2.size)⟩
  | false =>
    have hss := h40 rfl
    clear h40
    have HT2 := Lib.hid (HT.out.keep (Keep.of_below (S := fun _ => False) hb2 rfl) (fun h => h) (fun h => h))
    go_wp2_with fail
    obtain ⟨W3, hW3⟩ : ∃ W3, w2.alloc (.cells #[.int .i64 z, .slice none 0 0] 29) = W3 := ⟨_, rfl⟩
    obtain ⟨rb, hrb⟩ : ∃ q, w2.heap.size = q := ⟨_, rfl⟩
    have hb23 : Below w2.heap.size w2 W3 := by rw [← hW3]; exact (Below.refl _ _).alloc (Nat.le_refl _) _
    have hR3 : RefAt W3 w.heap.size rb z [] (.slice none 0 0) := ⟨by rw [← hW3, ← hrb]; exact Blk.new _ _ _, World.ownsRow_nil _ _ _ _⟩
    have hb3 := hbb2.trans (hb23.mono hbb2.size)
    have HT3 := Lib.hid (HT2.out.keep (Keep.of_below (S := fun _ => False) hb23 rfl) (fun h => h) (fun h => h))
    have hbr : b ≠ rb := by have := HT2.out.blk.lt; omega
    have hwrb : w.heap.size ≤ rb := by rw [← hrb]; exact hbb2.size
    rw [hW3]
    try rw [hrb]
    clear hW3
    have HR3 := Lib.hid hR3; clear hR3
    have HB3 := Lib.hid hb3; clear hb3
    clear hb1 hb2 hbb2 hb23 HT HT2 hrb
    go_loopw [7] (fun s7 wr => ∃ (i : Nat) (f : Nat → Int) (L : List Pc) (v : Value), i ≤ ss.length ∧ s7 = .int .i64 i ∧ TabAt Try.prog wr b m z f ∧ RefAt wr w.heap.size rb z L v ∧ (∀ r, r < 1114112 → f r = refF z L r) ∧ L.length ≤ i ∧ Below w.heap.size w wr)
      (fun s7 _ => ss.length - (intOf s7).toNat)
    case atStart => exact ⟨0, fun _ => z, [], _, Nat.zero_le _, rfl, HT3.out, HR3.out, fun _ _ => rfl, Nat.zero_le _, HB3.out⟩
    case round =>
      obtain ⟨i, f, L, v, hi, rfl, hT, hR, hfe, hLi, hB⟩ := hrel
      have HFE := Lib.hid hfe; clear hfe
      have hbs := hB.size
      by_cases hlt : i < ss.length
      · obtain ⟨bb, o, rfl, hc⟩ : ∃ bb o, va = some ⟨bb, o, none⟩ ∧ ∀ j, j < ss.length → w.cell? ⟨bb, o + j * 3, none⟩ = some (.int .i32 (ss.getD j (0, 0, 0)).1) ∧ w.cell? ⟨bb, o + j * 3 + 1, none⟩ = some (.int .i32 (ss.getD j (0, 0, 0)).2.1) ∧ w.cell? ⟨bb, o + j * 3 + 2, none⟩ = some (.int .i64 (ss.getD j (0, 0, 0)).2.2) := by
          rcases HL3.out with h | ⟨bb, o, h, hc⟩
          · rw [h] at hlt; simp at hlt
          · exact ⟨bb, o, h, fun j hj => ⟨(hc j hj).1, (hc j hj).2.1, (hc j hj).2.2.1⟩⟩
        obtain ⟨c0, c1, c2⟩ := hc i hlt
        clear hc
        obtain ⟨sa, hsa⟩ : ∃ x, (ss.getD i (0, 0, 0)).1 = x := ⟨_, rfl⟩
        obtain ⟨sb, hsb⟩ : ∃ x, (ss.getD i (0, 0, 0)).2.1 = x := ⟨_, rfl⟩
        obtain ⟨sv, hsv⟩ : ∃ x, (ss.getD i (0, 0, 0)).2.2 = x := ⟨_, rfl⟩
        rw [hsa] at c0
        rw [hsb] at c1
        rw [hsv] at c2
        clear hsa hsb hsv
        have hbw := cell_lt c0
        have d0 : wr.drew.cell? ⟨bb, o + i * 3, none⟩ = some (.int .i32 sa) := (hB.cell (p := ⟨bb, o + i * 3, none⟩) (cell_lt c0)).trans c0
        have d1 : wr.drew.cell? ⟨bb, o + i * 3 + 1, none⟩ = some (.int .i32 sb) := (hB.cell (p := ⟨bb, o + i * 3 + 1, none⟩) (cell_lt c1)).trans c1
        have d2 : wr.drew.cell? ⟨bb, o + i * 3 + 2, none⟩ = some (.int .i64 sv) := (hB.cell (p := ⟨bb, o + i * 3 + 2, none⟩) (cell_lt c2)).trans c2
        have i0 : (0 : Int) ≤ (i : Int) := by omega
        have i1 : (i : Int) < (ss.length : Int) := by omega
        have hne := hT.ne_row hR.row (by decide)
        have hmr : m ≠ rb := hT.ne_blk hR.blk
        have HT5 := Lib.hid hT.drew
        have HR5 := Lib.hid hR.drew
        have HB5 := Lib.hid hB; clear hB hT hR
        have HNE := Lib.hid hne; clear hne
        clear c0 c1 c2
        go_wp2_with fail
        have hS0 : wr.drew.cell? ⟨bb, o + i * 3, none⟩ = some (.int .i32 sa) ∧ wr.drew.cell? ⟨bb, o + i * 3 + 1, none⟩ = some (.int .i32 sb) ∧ wr.drew.cell? ⟨bb, o + i * 3 + 2, none⟩ = some (.int .i64 sv) := ⟨d0, d1, d2⟩
        refine wp_region_held_drew (S := fun w' => w'.cell? ⟨bb, o + i * 3, none⟩ = some (.int .i32 sa) ∧ w'.cell? ⟨bb, o + i * 3 + 1, none⟩ = some (.int .i32 sb) ∧ w'.cell? ⟨bb, o + i * 3 + 2, none⟩ = some (.int .i64 sv)) (by kernel_rfl) hS0 (fun hHeld => ?_)
        clear hS0
        refine wpAnyH_takeD (i := 0) (d := some 30) (v := ?_) rfl rfl (by kernel_rfl) (by kernel_rfl) (by kernel_rfl) (fun _ _ _ h => h) (Or.inl ⟨by rfl, ?_⟩) (by assumption) ?_
        rotate_left
        · intro w hSw; (try dsimp only at hSw); go_simp; all_goals (with_reducible rfl)
        simp only [Act.put, List.setIfInBounds_toArray, List.set_cons_zero, List.set_cons_succ]
        refine wpAnyH_takeD (i := 1) (d := some 31) (v := ?_) rfl rfl (by kernel_rfl) (by kernel_rfl) (by kernel_rfl) (fun _ _ _ h => h) (Or.inl ⟨by rfl, ?_⟩) (by assumption) ?_
        rotate_left
        · intro w hSw; (try dsimp only at hSw); go_simp; all_goals (with_reducible rfl)
        simp only [Act.put, List.setIfInBounds_toArray, List.set_cons_zero, List.set_cons_succ]
        refine wpAnyH_takeD (i := 2) (d := some 32) (v := ?_) rfl rfl (by kernel_rfl) (by kernel_rfl) (by kernel_rfl) (fun _ _ _ h => h) (Or.inl ⟨by rfl, ?_⟩) (by assumption) ?_
        rotate_left
        · intro w hSw; (try dsimp only at hSw); go_simp; all_goals (with_reducible rfl)
        simp only [Act.put, List.setIfInBounds_toArray, List.set_cons_zero, List.set_cons_succ]
        refine wpAnyH_takeD (i := 3) (d := some 33) (v := ?_) rfl rfl (by kernel_rfl) (by kernel_rfl) (by kernel_rfl) (fun _ _ _ h => h) (Or.inl ⟨by rfl, ?_⟩) (by assumption) ?_
        rotate_left
        · intro w hSw; (try dsimp only at hSw); go_simp; all_goals (with_reducible rfl)
        simp only [Act.put, List.setIfInBounds_toArray, List.set_cons_zero, List.set_cons_succ]
        refine wpAnyH_takeD (i := 4) (d := some 34) (v := ?_) rfl rfl (by kernel_rfl) (by kernel_rfl) (by kernel_rfl) (fun _ _ _ h => h) (Or.inl ⟨by rfl, ?_⟩) (by assumption) ?_
        rotate_left
        · intro w hSw; (try dsimp only at hSw); go_simp; all_goals (with_reducible rfl)
        simp only [Act.put, List.setIfInBounds_toArray, List.set_cons_zero, List.set_cons_succ]
        refine wpAnyH_takeD (i := 5) (d := some 35) (v := ?_) rfl rfl (by kernel_rfl) (by kernel_rfl) (by kernel_rfl) (fun _ _ _ h => h) (Or.inl ⟨by rfl, ?_⟩) (by assumption) ?_
        rotate_left
        · intro w hSw; (try dsimp only at hSw); go_simp; all_goals (with_reducible rfl)
        simp only [Act.put, List.setIfInBounds_toArray, List.set_cons_zero, List.set_cons_succ]
        refine wpAnyH_takeD (i := 6) (d := some 36) (v := ?_) rfl rfl (by kernel_rfl) (by kernel_rfl) (by kernel_rfl) (fun _ _ _ h => h) (Or.inl ⟨by rfl, ?_⟩) (by assumption) ?_
        rotate_left
        · intro w hSw; (try dsimp only at hSw); go_simp; all_goals (with_reducible rfl)
        simp only [Act.put, List.setIfInBounds_toArray, List.set_cons_zero, List.set_cons_succ]
        refine wpAnyH_takeD (i := 7) (d := some 37) (v := ?_) rfl rfl (by kernel_rfl) (by kernel_rfl) (by kernel_rfl) (fun _ _ _ h => h) (Or.inl ⟨by rfl, ?_⟩) (by assumption) ?_
        rotate_left
        · intro w hSw; (try dsimp only at hSw); go_simp; all_goals (with_reducible rfl)
        simp only [Act.put, List.setIfInBounds_toArray, List.set_cons_zero, List.set_cons_succ]
        refine wpAnyH_takeD (i := 8) (d := some 38) (v := ?_) rfl rfl (by kernel_rfl) (by kernel_rfl) (by kernel_rfl) (fun _ _ _ h => h) (Or.inl ⟨by rfl, ?_⟩) (by assumption) ?_
        rotate_left
        · intro w hSw; (try dsimp only at hSw); go_simp; all_goals (with_reducible rfl)
        simp only [Act.put, List.setIfInBounds_toArray, List.set_cons_zero, List.set_cons_succ]
        refine wpAnyH_takeD (i := 9) (d := some 39) (v := ?_) rfl rfl (by kernel_rfl) (by kernel_rfl) (by kernel_rfl) (fun _ _ _ h => h) (Or.inl ⟨by rfl, ?_⟩) (by assumption) ?_
        rotate_left
        · intro w hSw; (try dsimp only at hSw); go_simp; all_goals (with_reducible rfl)
        simp only [Act.put, List.setIfInBounds_toArray, List.set_cons_zero, List.set_cons_succ]
        refine wpAnyH_takeD (i := 10) (d := some 40) (v := ?_) rfl rfl (by kernel_rfl) (by kernel_rfl) (by kernel_rfl) (fun _ _ _ h => h) (Or.inl ⟨by rfl, ?_⟩) (by assumption) ?_
        rotate_left
        · intro w hSw; (try dsimp only at hSw); go_simp; all_goals (with_reducible rfl)
        simp only [Act.put, List.setIfInBounds_toArray, List.set_cons_zero, List.set_cons_succ]
        refine wpAnyH_takeD (i := 11) (d := some 41) (v := ?_) rfl rfl (by kernel_rfl) (by kernel_rfl) (by kernel_rfl) (fun _ _ _ h => h) (Or.inl ⟨by rfl, ?_⟩) (by assumption) ?_
        rotate_left
        · intro w hSw; (try dsimp only at hSw); go_simp; all_goals (with_reducible rfl)
        simp only [Act.put, List.setIfInBounds_toArray, List.set_cons_zero, List.set_cons_succ]
        refine wpAnyH_takeD (i := 12) (d := some 42) (v := ?_) rfl rfl (by kernel_rfl) (by kernel_rfl) (by kernel_rfl) (fun _ _ _ h => h) (Or.inl ⟨by rfl, ?_⟩) (by assumption) ?_
        rotate_left
        · intro w hSw; (try dsimp only at hSw); go_simp; all_goals (with_reducible rfl)
        simp only [Act.put, List.setIfInBounds_toArray, List.set_cons_zero, List.set_cons_succ]
        refine wpAnyH_takeD (i := 13) (d := some 43) (v := ?_) rfl rfl (by kernel_rfl) (by kernel_rfl) (by kernel_rfl) (fun _ _ _ h => h) (Or.inl ⟨by rfl, ?_⟩) (by assumption) ?_
        rotate_left
        · intro w hSw; (try dsimp only at hSw); go_simp; all_goals (with_reducible rfl)
        simp only [Act.put, List.setIfInBounds_toArray, List.set_cons_zero, List.set_cons_succ]
        refine wpAnyH_takeD (i := 14) (d := some 44) (v := ?_) rfl rfl (by kernel_rfl) (by kernel_rfl) (by kernel_rfl) (fun _ _ _ h => h) (Or.inl ⟨by rfl, ?_⟩) (by assumption) ?_
        rotate_left
        · intro w hSw; (try dsimp only at hSw); go_simp; all_goals (with_reducible rfl)
        simp only [Act.put, List.setIfInBounds_toArray, List.set_cons_zero, List.set_cons_succ]
        refine wpAnyH_takeD (i := 15) (d := some 45) (v := ?_) rfl rfl (by kernel_rfl) (by kernel_rfl) (by kernel_rfl) (fun _ _ _ h => h) (Or.inl ⟨by rfl, ?_⟩) (by assumption) ?_
        rotate_left
        · intro w hSw; (try dsimp only at hSw); go_simp; all_goals (with_reducible rfl)
        simp only [Act.put, List.setIfInBounds_toArray, List.set_cons_zero, List.set_cons_succ]
        refine wpAnyH_takeD (i := 17) (d := some 47) (v := ?_) rfl rfl (by kernel_rfl) (by kernel_rfl) (by kernel_rfl) (fun _ _ _ h => h) (Or.inl ⟨by rfl, ?_⟩) (by assumption) ?_
        rotate_left
        · intro w hSw; (try dsimp only at hSw); go_simp; all_goals (with_reducible rfl)
        simp only [Act.put, List.setIfInBounds_toArray, List.set_cons_zero, List.set_cons_succ]
        refine wpAnyH_takeD (i := 18) (d := some 48) (v := ?_) rfl rfl (by kernel_rfl) (by kernel_rfl) (by kernel_rfl) (fun _ _ _ h => h) (Or.inl ⟨by rfl, ?_⟩) (by assumption) ?_
        rotate_left
        · intro w hSw; (try dsimp only at hSw); go_simp; all_goals (with_reducible rfl)
        simp only [Act.put, List.setIfInBounds_toArray, List.set_cons_zero, List.set_cons_succ]
        refine wpAnyH_takeD (i := 19) (d := some 49) (v := ?_) rfl rfl (by kernel_rfl) (by kernel_rfl) (by kernel_rfl) (fun _ _ _ h => h) (Or.inl ⟨by rfl, ?_⟩) (by assumption) ?_
        rotate_left
        · intro w hSw; (try dsimp only at hSw); go_simp; all_goals (with_reducible rfl)
        simp only [Act.put, List.setIfInBounds_toArray, List.set_cons_zero, List.set_cons_succ]
        refine wpAnyH_takeD (i := 20) (d := some 50) (v := ?_) rfl rfl (by kernel_rfl) (by kernel_rfl) (by kernel_rfl) (fun _ _ _ h => h) (Or.inl ⟨by rfl, ?_⟩) (by assumption) ?_
        rotate_left
        · intro w hSw; (try dsimp only at hSw); go_simp; all_goals (with_reducible rfl)
        simp only [Act.put, List.setIfInBounds_toArray, List.set_cons_zero, List.set_cons_succ]
        refine wpAnyH_takeD (i := 21) (d := some 51) (v := ?_) rfl rfl (by kernel_rfl) (by kernel_rfl) (by kernel_rfl) (fun _ _ _ h => h) (Or.inl ⟨by rfl, ?_⟩) (by assumption) ?_
        rotate_left
        · intro w hSw; (try dsimp only at hSw); go_simp; all_goals (with_reducible rfl)
        simp only [Act.put, List.setIfInBounds_toArray, List.set_cons_zero, List.set_cons_succ]
        refine wpAnyH_takeD (i := 22) (d := some 52) (v := ?_) rfl rfl (by kernel_rfl) (by kernel_rfl) (by kernel_rfl) (fun _ _ _ h => h) (Or.inl ⟨by rfl, ?_⟩) (by assumption) ?_
        rotate_left
        · intro w hSw; (try dsimp only at hSw); go_simp; all_goals (with_reducible rfl)
        simp only [Act.put, List.setIfInBounds_toArray, List.set_cons_zero, List.set_cons_succ]
        refine wpAnyH_takeD (i := 23) (d := some 53) (v := ?_) rfl rfl (by kernel_rfl) (by kernel_rfl) (by kernel_rfl) (fun _ _ _ h => h) (Or.inl ⟨by rfl, ?_⟩) (by assumption) ?_
        rotate_left
        · intro w hSw; (try dsimp only at hSw); go_simp; all_goals (with_reducible rfl)
        simp only [Act.put, List.setIfInBounds_toArray, List.set_cons_zero, List.set_cons_succ]
        refine wpAnyH_takeD (i := 24) (d := some 54) (v := ?_) rfl rfl (by kernel_rfl) (by kernel_rfl) (by kernel_rfl) (fun _ _ _ h => h) (Or.inl ⟨by rfl, ?_⟩) (by assumption) ?_
        rotate_left
        · intro w hSw; (try dsimp only at hSw); go_simp; all_goals (with_reducible rfl)
        simp only [Act.put, List.setIfInBounds_toArray, List.set_cons_zero, List.set_cons_succ]
        refine wpAnyH_takeD (i := 25) (d := some 55) (v := ?_) rfl rfl (by kernel_rfl) (by kernel_rfl) (by kernel_rfl) (fun _ _ _ h => h) (Or.inl ⟨by rfl, ?_⟩) (by assumption) ?_
        rotate_left
        · intro w hSw; (try dsimp only at hSw); go_simp; all_goals (with_reducible rfl)
        simp only [Act.put, List.setIfInBounds_toArray, List.set_cons_zero, List.set_cons_succ]
        refine wpAnyH_takeD (i := 26) (d := some 56) (v := ?_) rfl rfl (by kernel_rfl) (by kernel_rfl) (by kernel_rfl) (fun _ _ _ h => h) (Or.inl ⟨by rfl, ?_⟩) (by assumption) ?_
        rotate_left
        · intro w hSw; (try dsimp only at hSw); go_simp; all_goals (with_reducible rfl)
        simp only [Act.put, List.setIfInBounds_toArray, List.set_cons_zero, List.set_cons_succ]
        refine wpAnyH_takeD (i := 27) (d := some 57) (v := ?_) rfl rfl (by kernel_rfl) (by kernel_rfl) (by kernel_rfl) (fun _ _ _ h => h) (Or.inl ⟨by rfl, ?_⟩) (by assumption) ?_
        rotate_left
        · intro w hSw; (try dsimp only at hSw); go_simp; all_goals (with_reducible rfl)
        simp only [Act.put, List.setIfInBounds_toArray, List.set_cons_zero, List.set_cons_succ]
        refine wpAnyH_takeD (i := 28) (d := some 58) (v := ?_) rfl rfl (by kernel_rfl) (by kernel_rfl) (by kernel_rfl) (fun _ _ _ h => h) (Or.inl ⟨by rfl, ?_⟩) (by assumption) ?_
        rotate_left
        · intro w hSw; (try dsimp only at hSw); go_simp; all_goals (with_reducible rfl)
        simp only [Act.put, List.setIfInBounds_toArray, List.set_cons_zero, List.set_cons_succ]
        refine wpAnyH_takeD (i := 29) (d := some 59) (v := ?_) rfl rfl (by kernel_rfl) (by kernel_rfl) (by kernel_rfl) (fun _ _ _ h => h) (Or.inl ⟨by rfl, ?_⟩) (by assumption) ?_
        rotate_left
        · intro w hSw; (try dsimp only at hSw); go_simp; all_goals (with_reducible rfl)
        simp only [Act.put, List.setIfInBounds_toArray, List.set_cons_zero, List.set_cons_succ]
        refine wpAnyH_takeD (i := 30) (d := some 60) (v := ?_) rfl rfl (by kernel_rfl) (by kernel_rfl) (by kernel_rfl) (fun _ _ _ h => h) (Or.inl ⟨by rfl, ?_⟩) (by assumption) ?_
        rotate_left
        · intro w hSw; (try dsimp only at hSw); go_simp; all_goals (with_reducible rfl)
        simp only [Act.put, List.setIfInBounds_toArray, List.set_cons_zero, List.set_cons_succ]
        refine wpAnyH_takeD (i := 31) (d := some 61) (v := ?_) rfl rfl (by kernel_rfl) (by kernel_rfl) (by kernel_rfl) (fun _ _ _ h => h) (Or.inl ⟨by rfl, ?_⟩) (by assumption) ?_
        rotate_left
        · intro w hSw; (try dsimp only at hSw); go_simp; all_goals (with_reducible rfl)
        simp only [Act.put, List.setIfInBounds_toArray, List.set_cons_zero, List.set_cons_succ]
        refine wpAnyH_takeD (i := 32) (d := some 62) (v := ?_) rfl rfl (by kernel_rfl) (by kernel_rfl) (by kernel_rfl) (fun _ _ _ h => h) (Or.inl ⟨by rfl, ?_⟩) (by assumption) ?_
        rotate_left
        · intro w hSw; (try dsimp only at hSw); go_simp; all_goals (with_reducible rfl)
        simp only [Act.put, List.setIfInBounds_toArray, List.set_cons_zero, List.set_cons_succ]
        refine wpAnyH_ready (rs := [16]) (by kernel_rfl) (by simp) ?_
        refine AllReadyH.cons (o := _) rfl (fun K hK => ?_) AllReadyH.nil
        go_simp
        refine (set_anyZ b m z f sa sb sv wr.drew HT5.out).mono ?_
        rintro e w5 ⟨rfl, hT6, hk6⟩
        go_wp2_with fail
        have g0 := hk6.cell d0 (by show ¬ bb = m; omega)
        have g1 := hk6.cell d1 (by show ¬ bb = m; omega)
        have g2 := hk6.cell d2 (by show ¬ bb = m; omega)
        have hS1 := And.intro g0 (And.intro g1 g2)
        refine hK.out _ _ hS1 (fun hHeld => ?_)
        clear hK K d0 d1 d2 hS1
        try simp only [Act.put, List.setIfInBounds_toArray, List.set_cons_zero, List.set_cons_succ]
        have hR6 := HR5.out.keep hk6 (by show ¬ rb = m; omega) (fun j e => by intro e'; exact HNE.out.2 (by rw [e, e']))
        have hB6 := HB5.out.drew.trans (hk6.below hbs (fun j e => by omega))
        have hne6 := hT6.ne_row hR6.row (by decide)
        have HNE6 := Lib.hid hne6; clear hne6
        have HT6 := Lib.hid hT6; clear hT6
        have HR6 := Lib.hid hR6; clear hR6
        have HB6 := Lib.hid hB6; clear hB6 hk6
        refine wpAnyH_ready (rs := [33]) (by kernel_rfl) (by simp) ?_
        refine AllReadyH.cons (o := _) rfl (fun K hK => ?_) AllReadyH.nil
        go_simp
        refine (ref_set w.heap.size rb z L v sa sb sv w5 HR6.out HB6.out.size (by omega)).mono ?_
        rintro e w6 ⟨rfl, v', hR7, hk7, hat⟩
        go_wp2_with fail
        have hvl : ∀ j, v.ownBlock = some j → w.heap.size ≤ j := fun j e => (HR6.out.row.lt j e).1
        have hnb : ¬ (bb = rb ∨ v.ownBlock = some bb) := by rintro (h | h); omega; have := hvl _ h; omega
        have k0 := hk7.cell g0 hnb
        have k1 := hk7.cell g1 hnb
        have k2 := hk7.cell g2 hnb
        have hS2 := And.intro k0 (And.intro k1 k2)
        refine hK.out _ _ hS2 (fun hHeld => ?_)
        clear hK K g0 g1 g2
        try simp only [Act.put, List.setIfInBounds_toArray, List.set_cons_zero, List.set_cons_succ]
        have hT7 := HT6.out.keep hk7 (by rintro (h | h); exact hbr h; exact HNE6.out.1 h) (by rintro (h | h); exact hmr h; exact HNE6.out.2 h)
        have hB7 := HB6.out.trans (hk7.below HB6.out.size (fun j e => by rcases e with e | e; omega; exact hvl j e))
        refine wpAnyH_takeD (i := 34) (d := some 64) (v := ?_) rfl rfl (by kernel_rfl) (by kernel_rfl) (by kernel_rfl) (fun _ _ _ h => h) (Or.inl ⟨by rfl, ?_⟩) (by assumption) ?_
        rotate_left
        · intro w hSw; (try dsimp only at hSw); go_simp; all_goals (with_reducible rfl)
        simp only [Act.put, List.setIfInBounds_toArray, List.set_cons_zero, List.set_cons_succ]
        refine wpAnyH_done (by kernel_rfl) ?_ _
        have HT7 := Lib.hid hT7; clear hT7
        have HR7 := Lib.hid hR7; clear hR7
        have HB7 := Lib.hid hB7; clear hB7
        clear hk7 hat hnb k0 k1 k2 hS2 hvl
        go_wp2
        go_roundw
        case rel => exact ⟨i + 1, _, _, v', by omega, by go_num, HT7.out, HR7.out, setF2_addV HFE.out sa sb sv, by have := addV_le L (sa, sb, sv); omega, HB7.out⟩
        case measure => simp [intOf]; omega
      · have i2 : ¬ (i : Int) < (ss.length : Int) := by omega
        have HT5 := Lib.hid hT; clear hT
        have HR5 := Lib.hid hR; clear hR
        have HB5 := Lib.hid hB; clear hB
        go_wp2_with fail
        refine (same_any b m z f w.heap.size rb L v _ ss wr HT5.out HR5.out (HL.out.mono HB5.out rfl) (by omega) HFE.out).mono ?_
        rintro e w8 ⟨rfl, hb8⟩
        go_wp2_with fail
        refine (awake_any _).mono ?_
        rintro e w9 ⟨rfl, hb9⟩
        have hb8' := HB5.out.trans (hb8.mono HB5.out.size)
        go_wp2
        go_ret
        exact ⟨rfl, hb8'.trans (hb9.mono hb8'.size)⟩

end Go.Proofs.Ytkpkcimghkmkfaa
