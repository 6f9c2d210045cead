/-
  The law TrieLast, walked.
-/
import Derived.Test.YtkpkcimghkmkfaaTrH
import Derived.Test.YtkpkcimghkmkfaaTrI
import Derived.ControlIn
namespace Go.Proofs.Ytkpkcimghkmkfaa
open Go.RowKit Go.Shelf
attribute [local go_sem] Oper.semAt_some

def getF (f : Nat → Int) (r : Int) : Int := if 0 ≤ r ∧ r < 1114112 then f r.toNat else 0

theorem get_any (b m : Nat) (f : Nat → Int) (r : Int) (w : World) (ht : TabAt Try.prog w b m 0 f) (hr1 : -2147483648 ≤ r) (hr2 : r ≤ 2147483647) :
    Calls Try.prog 17 #[.pointer (some ⟨b, 0, none⟩), .int .i32 r] w fun e w' => e = .returned (.int .i64 (getF f r)) ∧ Below w.heap.size w w' := by
  by_cases h : 0 ≤ r ∧ r < 1114112
  · obtain ⟨n, rfl⟩ : ∃ n : Nat, r = n := ⟨r.toNat, by omega⟩
    have e : getF f (n : Int) = f n := by unfold getF; rw [if_pos h]; rfl
    rw [e]
    exact get_in _ rfl b m 0 f n w ht (by omega)
  · have e : getF f r = 0 := by unfold getF; rw [if_neg h]
    rw [e]
    exact get_out _ rfl b m 0 f r w ht h hr1 hr2

/-- Set, whatever the range -/
def setF2 (f : Nat → Int) (a t v : Int) : Nat → Int := if 0 ≤ a ∧ t ≤ 1114111 ∧ a ≤ t then setR f a.toNat t.toNat v else f

def errOf (a t : Int) : Int := if 0 ≤ a ∧ t ≤ 1114111 ∧ a ≤ t then 0 else 11

theorem set_any (b m : Nat) (f : Nat → Int) (a t v : Int) (w : World) (ht : TabAt Try.prog w b m 0 f) :
    Calls Try.prog 12 #[.pointer (some ⟨b, 0, none⟩), .int .i32 a, .int .i32 t, .int .i64 v] w fun e w' =>
      e = .returned (.int .i64 (errOf a t)) ∧ TabAt Try.prog w' b m 0 (setF2 f a t v) ∧ Keep (fun j => j = m) w w' := by
  by_cases h : 0 ≤ a ∧ t ≤ 1114111 ∧ a ≤ t
  · obtain ⟨h1, h2, h3⟩ := h
    obtain ⟨A, rfl⟩ : ∃ A : Nat, a = A := ⟨a.toNat, by omega⟩
    obtain ⟨T, rfl⟩ : ∃ T : Nat, t = T := ⟨t.toNat, by omega⟩
    have e : setF2 f (A : Int) (T : Int) v = setR f A T v := by unfold setF2; rw [if_pos ⟨h1, h2, h3⟩]; rfl
    have e2 : errOf (A : Int) (T : Int) = 0 := by unfold errOf; rw [if_pos ⟨h1, h2, h3⟩]
    rw [e, e2]
    exact set_ok _ rfl b m 0 f A T v w ht (by omega) (by omega)
  · have e : setF2 f a t v = f := by unfold setF2; rw [if_neg h]
    have e2 : errOf a t = 11 := by unfold errOf; rw [if_neg h]
    rw [e, e2]
    refine (set_bad _ rfl b a t v w (by omega)).mono ?_
    rintro e w' ⟨rfl, rfl⟩
    exact ⟨rfl, ht, Keep.refl _ _⟩

theorem Keep.cell {S : Nat → Prop} {w w' : World} (h : Keep S w w') {b o : Nat} {v : Value} (hc : w.cell? ⟨b, o, none⟩ = some v) (hs : ¬ S b) : w'.cell? ⟨b, o, none⟩ = some v :=
  (World.cell?_of_block (w := w) (a := ⟨b, o, none⟩) (h.block b (cell_lt hc) hs)).trans hc

theorem last_facts {f F : Nat → Int} {a t v r g : Int} (hok : 0 ≤ a ∧ t ≤ 1114111 ∧ a ≤ t) (hg : getF f r = g) (hF : setF2 f a t v = F) :
    getF F a = v ∧ getF F t = v ∧ ((a ≤ r ∧ r ≤ t) → getF F r = v) ∧ (¬ (a ≤ r ∧ r ≤ t) → getF F r = g) := by
  obtain ⟨h1, h2, h3⟩ := hok
  have e : F = setR f a.toNat t.toNat v := by rw [← hF]; unfold setF2; rw [if_pos ⟨h1, h2, h3⟩]
  have hin : ∀ x : Int, a ≤ x → x ≤ t → getF F x = v := by
    intro x hx1 hx2
    unfold getF
    rw [if_pos (by omega), e]
    unfold setR
    rw [if_pos (by omega)]
  refine ⟨hin a (Int.le_refl _) h3, hin t h3 (Int.le_refl _), fun h => hin r h.1 h.2, fun h => ?_⟩
  rw [← hg]
  unfold getF
  by_cases hr : 0 ≤ r ∧ r < 1114112
  · rw [if_pos hr, if_pos hr, e]
    unfold setR
    rw [if_neg (by omega)]
  · rw [if_neg hr, if_neg hr]

theorem last_none {a t v : Int} (hok : 0 ≤ a ∧ t ≤ 1114111 ∧ a ≤ t) (x : Nat) : (fun _ : Nat => (0 : Int)) x = setF2 (setF2 (fun _ => 0) a t v) a t 0 x := by
  unfold setF2
  rw [if_pos hok, if_pos hok]
  unfold setR
  by_cases h : a.toNat ≤ x ∧ x ≤ t.toNat
  · rw [if_pos h]
  · rw [if_neg h, if_neg h]

theorem wpAnyH_takeD {P : Program} {ops : Array Oper} {Q : Exit → Act → World → Prop} {md : Region.Mode} {S : World → Prop} {i : Nat} {oi : Oper} {d : Option Tmp} {v : Value} {fuel : Nat} {listed : Array Bool} {a : Act} {w : World} (hi : ops[i]? = some oi) (hd : oi.dst = d)
    (hs : Region.noSelect ops = true) (hf : Region.free md ops listed i = true) (hr : (Region.ready md ops listed).contains i = true)
    (hQ : ∀ c a w, Q (.panic c) (a.put d v) w → Q (.panic c) a w) (hy : YieldsIf P ops S oi v a) (hS : S w)
    (h : wpAnyH P md ops Q S fuel (listed.setIfInBounds i true) (a.put d v) w) : wpAnyH P md ops Q S (fuel + 1) listed a w := by
  subst hd
  exact wpAnyH_take hi hs hf hr hQ hy hS h

set_option maxRecDepth 100000 in
set_option maxHeartbeats 8000000 in
theorem last_walk (vl : Value) (ss : List (Int × Int × Int)) (a t v r : Int) (w : World) (hl : RdSp w vl ss) (hr1 : -2147483648 ≤ r) (hr2 : r ≤ 2147483647)
    (ha1 : -2147483648 ≤ a) (ha2 : a ≤ 2147483647) (ht1 : -2147483648 ≤ t) (ht2 : t ≤ 2147483647) :
    Calls Try.prog 5 #[vl, .agg #[.int .i32 a, .int .i32 t, .int .i64 v], .int .i32 r] w fun e w' => e = .returned (.bool true) ∧ Below w.heap.size w w' := by
  obtain ⟨va, vc, rfl, hl1, hl2, hl3⟩ := id hl
  have HL := Lib.hid hl; clear hl
  have HL3 := Lib.hid hl3; clear hl3
  refine (callsIn_wide (n := 9)).1 ?_
  refine callsIn_of_wp_marks Try.func5 rfl trivial ?_ rfl
  simp only [Try.ntmps5, List.size_toArray, List.length_cons, List.length_nil, Nat.reduceAdd, Nat.reduceSub, Array.replicate_succ, Array.replicate_zero, List.push_toArray, List.append_toArray, List.nil_append, List.cons_append]
  refine wpIn_wide.2 ?_
  go_wp2_with fail
  obtain ⟨W0, hW0⟩ : ∃ W0, w.alloc (.cells #[.int .i32 a, .int .i32 t, .int .i64 v] 33) = W0 := ⟨_, rfl⟩
  have hs0 : W0.heap.size = w.heap.size + 1 := by rw [← hW0]; simp
  have hB0 : Below w.heap.size w W0 := by rw [← hW0]; exact (Below.refl _ _).alloc (Nat.le_refl _) _
  have x0 : W0.cell? ⟨w.heap.size, 0, none⟩ = some (.int .i32 a) := by rw [← hW0]; simp
  have x1 : W0.cell? ⟨w.heap.size, 1, none⟩ = some (.int .i32 t) := by rw [← hW0]; simp
  have x2 : W0.cell? ⟨w.heap.size, 2, none⟩ = some (.int .i64 v) := by rw [← hW0]; simp
  rw [hW0]
  clear hW0
  refine (new_any _ rfl 0 W0).mono ?_
  rintro e w1 ⟨b, m, rfl, hbW, hmW, hT, hb1⟩
  have HT := Lib.hid hT; clear hT
  have hbb1 := hB0.trans (hb1.mono hB0.size)
  go_wp2_with fail
  refine (wide_any _ ss w1 (HL.out.mono hbb1 rfl)).mono ?_
  rintro e w2 ⟨⟨t1, rfl⟩, hb2⟩
  have hbb2 := hbb1.trans (hb2.mono hbb1.size)
  cases t1 with
  | true =>
    go_wp2_with fail
    refine (awake_any _).mono ?_
    rintro e w3 ⟨rfl, hb3⟩
    go_wp2
    exact ⟨_, results_tmp rfl _ _ _, rfl, hbb2.trans (hb3.mono hbb2.size)⟩
  | false =>
    have y0 : w2.cell? ⟨w.heap.size, 0, none⟩ = some (.int .i32 a) := by rw [hb2.cell (p := ⟨w.heap.size, 0, none⟩) (by have := hb1.size; show w.heap.size < _; omega), hb1.cell (p := ⟨w.heap.size, 0, none⟩) (by show w.heap.size < _; omega)]; exact x0
    have y1 : w2.cell? ⟨w.heap.size, 1, none⟩ = some (.int .i32 t) := by rw [hb2.cell (p := ⟨w.heap.size, 1, none⟩) (by have := hb1.size; show w.heap.size < _; omega), hb1.cell (p := ⟨w.heap.size, 1, none⟩) (by show w.heap.size < _; omega)]; exact x1
    have y2 : w2.cell? ⟨w.heap.size, 2, none⟩ = some (.int .i64 v) := by rw [hb2.cell (p := ⟨w.heap.size, 2, none⟩) (by have := hb1.size; show w.heap.size < _; omega), hb1.cell (p := ⟨w.heap.size, 2, none⟩) (by show w.heap.size < _; omega)]; exact x2
    have HT2 := Lib.hid (HT.out.keep (Keep.of_below (S := fun _ => False) hb2 rfl) (fun h => h) (fun h => h))
    clear x0 x1 x2 HT
    go_wp2_with fail
    have hR3 : RdSp (w2.alloc (.cells #[.int .i32 a, .int .i32 t, .int .i64 v] 33)) (.slice (some ⟨w2.heap.size, 0, none⟩) 1 1) [(a, t, v)] := by
      refine ⟨_, 1, rfl, by simp, by omega, .inr ⟨w2.heap.size, 0, rfl, fun j hj => ?_⟩⟩
      obtain rfl : j = 0 := by simp at hj; exact hj
      exact ⟨by simp, by simp, by simp, ha1, ha2, ht1, ht2⟩
    have hb23 : Below w2.heap.size w2 (w2.alloc (.cells #[.int .i32 a, .int .i32 t, .int .i64 v] 33)) := (Below.refl _ _).alloc (Nat.le_refl _) _
    refine (wide_any _ _ _ hR3).mono ?_
    rintro e w3 ⟨⟨t2, rfl⟩, hb3⟩
    have hb2w3 : Below w2.heap.size w2 w3 := hb23.trans (hb3.mono (by simp))
    have hbb3 := hbb2.trans (hb2w3.mono hbb2.size)
    have z0 : w3.cell? ⟨w.heap.size, 0, none⟩ = some (.int .i32 a) := by rw [hb2w3.cell (p := ⟨w.heap.size, 0, none⟩) (cell_lt y0)]; exact y0
    have z1 : w3.cell? ⟨w.heap.size, 1, none⟩ = some (.int .i32 t) := by rw [hb2w3.cell (p := ⟨w.heap.size, 1, none⟩) (cell_lt y1)]; exact y1
    have z2 : w3.cell? ⟨w.heap.size, 2, none⟩ = some (.int .i64 v) := by rw [hb2w3.cell (p := ⟨w.heap.size, 2, none⟩) (cell_lt y2)]; exact y2
    have HT3 := Lib.hid (HT2.out.keep (Keep.of_below (S := fun _ => False) hb2w3 rfl) (fun h => h) (fun h => h))
    clear y0 y1 y2 HT2 hR3 hb3 hb23
    cases t2 with
    | true =>
      go_wp2_with fail
      refine (awake_any _).mono ?_
      rintro e w4 ⟨rfl, hb4⟩
      go_wp2
      exact ⟨_, results_tmp rfl _ _ _, rfl, hbb3.trans (hb4.mono hbb3.size)⟩
    | false =>
      have Z0 := Lib.hid z0; clear z0
      have Z1 := Lib.hid z1; clear z1
      have Z2 := Lib.hid z2; clear z2
      go_wp2_with fail
      go_loopw [8] (fun s8 wr => ∃ (k : Nat) (f : Nat → Int), k ≤ ss.length ∧ s8 = .int .i64 k ∧ TabAt Try.prog wr b m 0 f ∧ Keep (fun j => j = m) w3 wr) (fun s8 _ => ss.length - (intOf s8).toNat)
      case atStart => exact ⟨0, _, Nat.zero_le _, rfl, HT3.out, Keep.refl _ _⟩
      case round =>
        obtain ⟨k, f, hk, rfl, hTf, hkw⟩ := hrel
        have HTF := Lib.hid hTf; clear hTf
        have hwm : ¬ w.heap.size = m := by omega
        by_cases hlt : k < ss.length
        · rcases HL3.out with hnil | ⟨lb, lo, rfl, hc⟩
          · rw [hnil] at hlt; simp at hlt
          obtain ⟨c1, c2, c3, _⟩ := hc k hlt
          clear hc
          obtain ⟨⟨fr, up, vv⟩, hs⟩ : ∃ s, ss.getD k (0, 0, 0) = s := ⟨_, rfl⟩
          rw [hs] at c1 c2 c3
          dsimp only at c1 c2 c3
          have hlb := cell_lt c1
          have hlm : ¬ lb = m := by omega
          have hK0 : Keep (fun j => j = m) w wr := (Keep.of_below (S := fun j => j = m) hbb3 rfl).trans hkw (fun _ _ h => h)
          have d1 := hK0.cell c1 hlm
          have d2 := hK0.cell c2 hlm
          have d3 := hK0.cell c3 hlm
          have hlr : lb < wr.heap.size := cell_lt d1
          clear c1 c2 c3 hs
          have i1 : (0 : Int) ≤ (k : Int) := by omega
          have i2 : (k : Int) < (ss.length : Int) := by omega
          go_wp2
          go_region_held3 (fun w' => w'.cell? ⟨lb, lo + k * 3, none⟩ = some (.int .i32 fr) ∧ w'.cell? ⟨lb, lo + k * 3 + 1, none⟩ = some (.int .i32 up) ∧ w'.cell? ⟨lb, lo + k * 3 + 2, none⟩ = some (.int .i64 vv))
            (first | go_keep | exact ⟨hkC.cell d1 hlm, hkC.cell d2 hlm, hkC.cell d3 hlm⟩)
            (first | (go_at_call 12; refine (set_any b m f fr up vv _ HTF.out.drew).mono ?_; rintro e wC ⟨rfl, hTC, hkC⟩))
          go_wp2
          go_roundw
          case rel => exact ⟨k + 1, _, by omega, by go_num, hTC, (hkw.trans (Keep.of_drew _ _) (fun _ _ h => h)).trans hkC (fun _ _ h => h)⟩
          case measure => simp [intOf]; omega
        · have hend : ¬ (k : Int) < (ss.length : Int) := by omega
          have hK0 : Below w.heap.size w wr := hbb3.trans (hkw.below hbb3.size (fun j hj => by omega))
          have q0 := hkw.cell Z0.out hwm
          have q1 := hkw.cell Z1.out hwm
          have q2 := hkw.cell Z2.out hwm
          clear Z0 Z1 Z2 hkw HT3
          go_wp2_with fail
          refine (get_any b m f r wr HTF.out hr1 hr2).mono ?_
          rintro e w4 ⟨rfl, hb4⟩
          have hbb4 := hK0.trans (hb4.mono hK0.size)
          have p0 : w4.cell? ⟨w.heap.size, 0, none⟩ = some (.int .i32 a) := (hb4.cell (p := ⟨w.heap.size, 0, none⟩) (cell_lt q0)).trans q0
          have p1 : w4.cell? ⟨w.heap.size, 1, none⟩ = some (.int .i32 t) := (hb4.cell (p := ⟨w.heap.size, 1, none⟩) (cell_lt q1)).trans q1
          have p2 : w4.cell? ⟨w.heap.size, 2, none⟩ = some (.int .i64 v) := (hb4.cell (p := ⟨w.heap.size, 2, none⟩) (cell_lt q2)).trans q2
          have HT4 := Lib.hid (HTF.out.keep (Keep.of_below (S := fun _ => False) hb4 rfl) (fun h => h) (fun h => h))
          clear q0 q1 q2 HTF hb4
          obtain ⟨g, hg⟩ : ∃ g, getF f r = g := ⟨_, rfl⟩
          rw [hg]
          go_wp2_with fail
          refine (set_any b m f a t v w4 HT4.out).mono ?_
          rintro e w5 ⟨rfl, hT5, hk5⟩
          have x0 := hk5.cell p0 hwm
          have x1 := hk5.cell p1 hwm
          have x2 := hk5.cell p2 hwm
          have hbb5 := hbb4.trans (hk5.below hbb4.size (fun j hj => by omega))
          have HT5 := Lib.hid hT5; clear hT5
          clear p0 p1 p2 HT4 hk5
          by_cases hok : 0 ≤ a ∧ t ≤ 1114111 ∧ a ≤ t
          · have he : errOf a t = 0 := by unfold errOf; rw [if_pos hok]
            rw [he]
            clear he
            obtain ⟨F, hF⟩ : ∃ F, setF2 f a t v = F := ⟨_, rfl⟩
            rw [hF] at HT5
            have hFg := last_facts hok hg hF
            obtain ⟨h1, h2, h3⟩ := hok
            have g1 : ¬ a < 0 := by omega
            have g2 : ¬ 1114111 < t := by omega
            have g3 : ¬ t < a := by omega
            have E1 := Lib.hid hFg.1
            have E2 := Lib.hid hFg.2.1
            have E34 := Lib.hid hFg.2.2
            clear hFg hF hg
            go_upto_region 12 with fail
            go_cut [11] from 93 to 102 (fun s11 wx => s11 = .bool (decide (a ≤ r ∧ r ≤ t)) ∧ wx = w5)
            case first =>
              by_cases h4 : a ≤ r
              · by_cases h5 : r ≤ t
                · go_wp2_with fail
                  go_meet
                  exact ⟨by rw [decide_eq_true ⟨h4, h5⟩], rfl⟩
                · go_wp2_with fail
                  go_meet
                  exact ⟨by rw [decide_eq_false (by omega)], rfl⟩
              · go_wp2_with fail
                go_meet
                exact ⟨by rw [decide_eq_false (by omega)], rfl⟩
            case rest =>
              obtain ⟨rfl, rfl⟩ := hcut
              obtain ⟨inn, hin⟩ : ∃ inn, decide (a ≤ r ∧ r ≤ t) = inn := ⟨_, rfl⟩
              rw [hin]
              have HIN := Lib.hid hin; clear hin
              have HTD := Lib.hid HT5.out.drew
              have x0D := x0
              have x1D := x1
              have x2D := x2
              go_upto_region 13 with fail
              go_cut [144] from 103 to 144 (fun s144 wx => s144 = .bool false ∧ Below wc.heap.size wc wx)
              case first =>
                cases inn with
                | true =>
                  have E3 := Lib.hid ((E34.out.1) (by simpa using HIN.out))
                  refine wp_region_noPanic ?_
                  refine wp_region_held_drew (S := fun w' => w'.cell? ⟨w.heap.size, 0, none⟩ = some (.int .i32 a) ∧ w'.cell? ⟨w.heap.size, 1, none⟩ = some (.int .i32 t) ∧ w'.cell? ⟨w.heap.size, 2, none⟩ = some (.int .i64 v)) (by kernel_rfl) ⟨x0, x1, x2⟩ (fun hHeld => ?_)
                  refine wpAnyH_takeD (i := 0) (d := some 103) (v := ?_) rfl rfl (by kernel_rfl) (by kernel_rfl) (by kernel_rfl) (fun _ _ _ h => h) (Or.inl ⟨by rfl, ?_⟩) (by assumption) ?_
                  rotate_left
                  · intro w hSw; (try dsimp only at hSw); go_simp; all_goals (with_reducible rfl)
                  simp only [Act.put, List.setIfInBounds_toArray, List.set_cons_zero, List.set_cons_succ]
                  refine wpAnyH_takeD (i := 1) (d := some 104) (v := ?_) rfl rfl (by kernel_rfl) (by kernel_rfl) (by kernel_rfl) (fun _ _ _ h => h) (Or.inl ⟨by rfl, ?_⟩) (by assumption) ?_
                  rotate_left
                  · intro w hSw; (try dsimp only at hSw); go_simp; all_goals (with_reducible rfl)
                  simp only [Act.put, List.setIfInBounds_toArray, List.set_cons_zero, List.set_cons_succ]
                  refine wpAnyH_takeD (i := 2) (d := some 105) (v := ?_) rfl rfl (by kernel_rfl) (by kernel_rfl) (by kernel_rfl) (fun _ _ _ h => h) (Or.inl ⟨by rfl, ?_⟩) (by assumption) ?_
                  rotate_left
                  · intro w hSw; (try dsimp only at hSw); go_simp; all_goals (with_reducible rfl)
                  simp only [Act.put, List.setIfInBounds_toArray, List.set_cons_zero, List.set_cons_succ]
                  refine wpAnyH_takeD (i := 3) (d := some 106) (v := ?_) rfl rfl (by kernel_rfl) (by kernel_rfl) (by kernel_rfl) (fun _ _ _ h => h) (Or.inl ⟨by rfl, ?_⟩) (by assumption) ?_
                  rotate_left
                  · intro w hSw; (try dsimp only at hSw); go_simp; all_goals (with_reducible rfl)
                  simp only [Act.put, List.setIfInBounds_toArray, List.set_cons_zero, List.set_cons_succ]
                  refine wpAnyH_takeD (i := 4) (d := some 107) (v := ?_) rfl rfl (by kernel_rfl) (by kernel_rfl) (by kernel_rfl) (fun _ _ _ h => h) (Or.inl ⟨by rfl, ?_⟩) (by assumption) ?_
                  rotate_left
                  · intro w hSw; (try dsimp only at hSw); go_simp; all_goals (with_reducible rfl)
                  simp only [Act.put, List.setIfInBounds_toArray, List.set_cons_zero, List.set_cons_succ]
                  refine wpAnyH_takeD (i := 5) (d := some 108) (v := ?_) rfl rfl (by kernel_rfl) (by kernel_rfl) (by kernel_rfl) (fun _ _ _ h => h) (Or.inl ⟨by rfl, ?_⟩) (by assumption) ?_
                  rotate_left
                  · intro w hSw; (try dsimp only at hSw); go_simp; all_goals (with_reducible rfl)
                  simp only [Act.put, List.setIfInBounds_toArray, List.set_cons_zero, List.set_cons_succ]
                  refine wpAnyH_takeD (i := 7) (d := some 110) (v := ?_) rfl rfl (by kernel_rfl) (by kernel_rfl) (by kernel_rfl) (fun _ _ _ h => h) (Or.inl ⟨by rfl, ?_⟩) (by assumption) ?_
                  rotate_left
                  · intro w hSw; (try dsimp only at hSw); go_simp; all_goals (with_reducible rfl)
                  simp only [Act.put, List.setIfInBounds_toArray, List.set_cons_zero, List.set_cons_succ]
                  refine wpAnyH_takeD (i := 8) (d := some 111) (v := ?_) rfl rfl (by kernel_rfl) (by kernel_rfl) (by kernel_rfl) (fun _ _ _ h => h) (Or.inl ⟨by rfl, ?_⟩) (by assumption) ?_
                  rotate_left
                  · intro w hSw; (try dsimp only at hSw); go_simp; all_goals (with_reducible rfl)
                  simp only [Act.put, List.setIfInBounds_toArray, List.set_cons_zero, List.set_cons_succ]
                  refine wpAnyH_ready (rs := [6]) (by kernel_rfl) (by simp) ?_
                  refine AllReadyH.cons (o := _) rfl (fun K hK => ?_) AllReadyH.nil
                  go_simp
                  refine (get_any b m F a _ HTD.out ha1 ha2).mono ?_
                  rintro e wA ⟨rfl, hbA⟩
                  rw [E1.out]
                  go_wp2_with fail
                  have HTA := Lib.hid (HTD.out.keep (Keep.of_below (S := fun _ => False) hbA rfl) (fun h => h) (fun h => h))
                  have x0A := (hbA.cell (p := ⟨w.heap.size, 0, none⟩) (cell_lt x0D)).trans x0D
                  have x1A := (hbA.cell (p := ⟨w.heap.size, 1, none⟩) (cell_lt x1D)).trans x1D
                  have x2A := (hbA.cell (p := ⟨w.heap.size, 2, none⟩) (cell_lt x2D)).trans x2D
                  refine hK.out _ _ ⟨x0A, x1A, x2A⟩ (fun hHeld => ?_)
                  clear hK K
                  try simp only [Act.put, List.setIfInBounds_toArray, List.set_cons_zero, List.set_cons_succ]
                  refine wpAnyH_takeD (i := 9) (d := some 112) (v := ?_) rfl rfl (by kernel_rfl) (by kernel_rfl) (by kernel_rfl) (fun _ _ _ h => h) (Or.inl ⟨by rfl, ?_⟩) (by assumption) ?_
                  rotate_left
                  · intro w hSw; (try dsimp only at hSw); go_simp; all_goals (with_reducible rfl)
                  simp only [Act.put, List.setIfInBounds_toArray, List.set_cons_zero, List.set_cons_succ]
                  refine wpAnyH_takeD (i := 10) (d := some 113) (v := ?_) rfl rfl (by kernel_rfl) (by kernel_rfl) (by kernel_rfl) (fun _ _ _ h => h) (Or.inl ⟨by rfl, ?_⟩) (by assumption) ?_
                  rotate_left
                  · intro w hSw; (try dsimp only at hSw); go_simp; all_goals (with_reducible rfl)
                  simp only [Act.put, List.setIfInBounds_toArray, List.set_cons_zero, List.set_cons_succ]
                  refine wpAnyH_takeD (i := 11) (d := some 114) (v := ?_) rfl rfl (by kernel_rfl) (by kernel_rfl) (by kernel_rfl) (fun _ _ _ h => h) (Or.inl ⟨by rfl, ?_⟩) (by assumption) ?_
                  rotate_left
                  · intro w hSw; (try dsimp only at hSw); go_simp; all_goals (with_reducible rfl)
                  simp only [Act.put, List.setIfInBounds_toArray, List.set_cons_zero, List.set_cons_succ]
                  refine wpAnyH_takeD (i := 12) (d := some 115) (v := ?_) rfl rfl (by kernel_rfl) (by kernel_rfl) (by kernel_rfl) (fun _ _ _ h => h) (Or.inl ⟨by rfl, ?_⟩) (by assumption) ?_
                  rotate_left
                  · intro w hSw; (try dsimp only at hSw); go_simp; all_goals (with_reducible rfl)
                  simp only [Act.put, List.setIfInBounds_toArray, List.set_cons_zero, List.set_cons_succ]
                  refine wpAnyH_takeD (i := 13) (d := some 116) (v := ?_) rfl rfl (by kernel_rfl) (by kernel_rfl) (by kernel_rfl) (fun _ _ _ h => h) (Or.inl ⟨by rfl, ?_⟩) (by assumption) ?_
                  rotate_left
                  · intro w hSw; (try dsimp only at hSw); go_simp; all_goals (with_reducible rfl)
                  simp only [Act.put, List.setIfInBounds_toArray, List.set_cons_zero, List.set_cons_succ]
                  refine wpAnyH_takeD (i := 14) (d := some 117) (v := ?_) rfl rfl (by kernel_rfl) (by kernel_rfl) (by kernel_rfl) (fun _ _ _ h => h) (Or.inl ⟨by rfl, ?_⟩) (by assumption) ?_
                  rotate_left
                  · intro w hSw; (try dsimp only at hSw); go_simp; all_goals (with_reducible rfl)
                  simp only [Act.put, List.setIfInBounds_toArray, List.set_cons_zero, List.set_cons_succ]
                  refine wpAnyH_takeD (i := 16) (d := some 119) (v := ?_) rfl rfl (by kernel_rfl) (by kernel_rfl) (by kernel_rfl) (fun _ _ _ h => h) (Or.inl ⟨by rfl, ?_⟩) (by assumption) ?_
                  rotate_left
                  · intro w hSw; (try dsimp only at hSw); go_simp; all_goals (with_reducible rfl)
                  simp only [Act.put, List.setIfInBounds_toArray, List.set_cons_zero, List.set_cons_succ]
                  refine wpAnyH_takeD (i := 17) (d := some 120) (v := ?_) rfl rfl (by kernel_rfl) (by kernel_rfl) (by kernel_rfl) (fun _ _ _ h => h) (Or.inl ⟨by rfl, ?_⟩) (by assumption) ?_
                  rotate_left
                  · intro w hSw; (try dsimp only at hSw); go_simp; all_goals (with_reducible rfl)
                  simp only [Act.put, List.setIfInBounds_toArray, List.set_cons_zero, List.set_cons_succ]
                  refine wpAnyH_ready (rs := [15]) (by kernel_rfl) (by simp) ?_
                  refine AllReadyH.cons (o := _) rfl (fun K hK => ?_) AllReadyH.nil
                  go_simp
                  refine (get_any b m F t _ HTA.out ht1 ht2).mono ?_
                  rintro e wB ⟨rfl, hbB⟩
                  rw [E2.out]
                  go_wp2_with fail
                  have HTB := Lib.hid (HTA.out.keep (Keep.of_below (S := fun _ => False) hbB rfl) (fun h => h) (fun h => h))
                  have x0B := (hbB.cell (p := ⟨w.heap.size, 0, none⟩) (cell_lt x0A)).trans x0A
                  have x1B := (hbB.cell (p := ⟨w.heap.size, 1, none⟩) (cell_lt x1A)).trans x1A
                  have x2B := (hbB.cell (p := ⟨w.heap.size, 2, none⟩) (cell_lt x2A)).trans x2A
                  refine hK.out _ _ ⟨x0B, x1B, x2B⟩ (fun hHeld => ?_)
                  clear hK K
                  try simp only [Act.put, List.setIfInBounds_toArray, List.set_cons_zero, List.set_cons_succ]
                  refine wpAnyH_takeD (i := 18) (d := some 121) (v := ?_) rfl rfl (by kernel_rfl) (by kernel_rfl) (by kernel_rfl) (fun _ _ _ h => h) (Or.inl ⟨by rfl, ?_⟩) (by assumption) ?_
                  rotate_left
                  · intro w hSw; (try dsimp only at hSw); go_simp; all_goals (with_reducible rfl)
                  simp only [Act.put, List.setIfInBounds_toArray, List.set_cons_zero, List.set_cons_succ]
                  refine wpAnyH_takeD (i := 19) (d := some 122) (v := ?_) rfl rfl (by kernel_rfl) (by kernel_rfl) (by kernel_rfl) (fun _ _ _ h => h) (Or.inl ⟨by rfl, ?_⟩) (by assumption) ?_
                  rotate_left
                  · intro w hSw; (try dsimp only at hSw); go_simp; all_goals (with_reducible rfl)
                  simp only [Act.put, List.setIfInBounds_toArray, List.set_cons_zero, List.set_cons_succ]
                  refine wpAnyH_takeD (i := 20) (d := some 123) (v := ?_) rfl rfl (by kernel_rfl) (by kernel_rfl) (by kernel_rfl) (fun _ _ _ h => h) (Or.inl ⟨by rfl, ?_⟩) (by assumption) ?_
                  rotate_left
                  · intro w hSw; (try dsimp only at hSw); go_simp; all_goals (with_reducible rfl)
                  simp only [Act.put, List.setIfInBounds_toArray, List.set_cons_zero, List.set_cons_succ]
                  refine wpAnyH_takeD (i := 21) (d := some 124) (v := ?_) rfl rfl (by kernel_rfl) (by kernel_rfl) (by kernel_rfl) (fun _ _ _ h => h) (Or.inl ⟨by rfl, ?_⟩) (by assumption) ?_
                  rotate_left
                  · intro w hSw; (try dsimp only at hSw); go_simp; all_goals (with_reducible rfl)
                  simp only [Act.put, List.setIfInBounds_toArray, List.set_cons_zero, List.set_cons_succ]
                  refine wpAnyH_takeD (i := 22) (d := some 125) (v := ?_) rfl rfl (by kernel_rfl) (by kernel_rfl) (by kernel_rfl) (fun _ _ _ h => h) (Or.inl ⟨by rfl, ?_⟩) (by assumption) ?_
                  rotate_left
                  · intro w hSw; (try dsimp only at hSw); go_simp; all_goals (with_reducible rfl)
                  simp only [Act.put, List.setIfInBounds_toArray, List.set_cons_zero, List.set_cons_succ]
                  refine wpAnyH_takeD (i := 23) (d := some 126) (v := ?_) rfl rfl (by kernel_rfl) (by kernel_rfl) (by kernel_rfl) (fun _ _ _ h => h) (Or.inl ⟨by rfl, ?_⟩) (by assumption) ?_
                  rotate_left
                  · intro w hSw; (try dsimp only at hSw); go_simp; all_goals (with_reducible rfl)
                  simp only [Act.put, List.setIfInBounds_toArray, List.set_cons_zero, List.set_cons_succ]
                  refine wpAnyH_takeD (i := 24) (d := some 127) (v := ?_) rfl rfl (by kernel_rfl) (by kernel_rfl) (by kernel_rfl) (fun _ _ _ h => h) (Or.inl ⟨by rfl, ?_⟩) (by assumption) ?_
                  rotate_left
                  · intro w hSw; (try dsimp only at hSw); go_simp; all_goals (with_reducible rfl)
                  simp only [Act.put, List.setIfInBounds_toArray, List.set_cons_zero, List.set_cons_succ]
                  refine wpAnyH_takeD (i := 26) (d := some 129) (v := ?_) rfl rfl (by kernel_rfl) (by kernel_rfl) (by kernel_rfl) (fun _ _ _ h => h) (Or.inl ⟨by rfl, ?_⟩) (by assumption) ?_
                  rotate_left
                  · intro w hSw; (try dsimp only at hSw); go_simp; all_goals (with_reducible rfl)
                  simp only [Act.put, List.setIfInBounds_toArray, List.set_cons_zero, List.set_cons_succ]
                  refine wpAnyH_takeD (i := 27) (d := some 130) (v := ?_) rfl rfl (by kernel_rfl) (by kernel_rfl) (by kernel_rfl) (fun _ _ _ h => h) (Or.inl ⟨by rfl, ?_⟩) (by assumption) ?_
                  rotate_left
                  · intro w hSw; (try dsimp only at hSw); go_simp; all_goals (with_reducible rfl)
                  simp only [Act.put, List.setIfInBounds_toArray, List.set_cons_zero, List.set_cons_succ]
                  refine wpAnyH_ready (rs := [25]) (by kernel_rfl) (by simp) ?_
                  refine AllReadyH.cons (o := _) rfl (fun K hK => ?_) AllReadyH.nil
                  go_simp
                  refine (get_any b m F r _ HTB.out hr1 hr2).mono ?_
                  rintro e wC ⟨rfl, hbC⟩
                  rw [E3.out]
                  go_wp2_with fail
                  have HTC := Lib.hid (HTB.out.keep (Keep.of_below (S := fun _ => False) hbC rfl) (fun h => h) (fun h => h))
                  have x0C := (hbC.cell (p := ⟨w.heap.size, 0, none⟩) (cell_lt x0B)).trans x0B
                  have x1C := (hbC.cell (p := ⟨w.heap.size, 1, none⟩) (cell_lt x1B)).trans x1B
                  have x2C := (hbC.cell (p := ⟨w.heap.size, 2, none⟩) (cell_lt x2B)).trans x2B
                  refine hK.out _ _ ⟨x0C, x1C, x2C⟩ (fun hHeld => ?_)
                  clear hK K
                  try simp only [Act.put, List.setIfInBounds_toArray, List.set_cons_zero, List.set_cons_succ]
                  refine wpAnyH_takeD (i := 28) (d := some 131) (v := ?_) rfl rfl (by kernel_rfl) (by kernel_rfl) (by kernel_rfl) (fun _ _ _ h => h) (Or.inl ⟨by rfl, ?_⟩) (by assumption) ?_
                  rotate_left
                  · intro w hSw; (try dsimp only at hSw); go_simp; all_goals (with_reducible rfl)
                  simp only [Act.put, List.setIfInBounds_toArray, List.set_cons_zero, List.set_cons_succ]
                  refine wpAnyH_takeD (i := 29) (d := some 132) (v := ?_) rfl rfl (by kernel_rfl) (by kernel_rfl) (by kernel_rfl) (fun _ _ _ h => h) (Or.inl ⟨by rfl, ?_⟩) (by assumption) ?_
                  rotate_left
                  · intro w hSw; (try dsimp only at hSw); go_simp; all_goals (with_reducible rfl)
                  simp only [Act.put, List.setIfInBounds_toArray, List.set_cons_zero, List.set_cons_succ]
                  refine wpAnyH_takeD (i := 30) (d := some 133) (v := ?_) rfl rfl (by kernel_rfl) (by kernel_rfl) (by kernel_rfl) (fun _ _ _ h => h) (Or.inl ⟨by rfl, ?_⟩) (by assumption) ?_
                  rotate_left
                  · intro w hSw; (try dsimp only at hSw); go_simp; all_goals (with_reducible rfl)
                  simp only [Act.put, List.setIfInBounds_toArray, List.set_cons_zero, List.set_cons_succ]
                  refine wpAnyH_takeD (i := 31) (d := some 134) (v := ?_) rfl rfl (by kernel_rfl) (by kernel_rfl) (by kernel_rfl) (fun _ _ _ h => h) (Or.inl ⟨by rfl, ?_⟩) (by assumption) ?_
                  rotate_left
                  · intro w hSw; (try dsimp only at hSw); go_simp; all_goals (with_reducible rfl)
                  simp only [Act.put, List.setIfInBounds_toArray, List.set_cons_zero, List.set_cons_succ]
                  refine wpAnyH_takeD (i := 32) (d := some 135) (v := ?_) rfl rfl (by kernel_rfl) (by kernel_rfl) (by kernel_rfl) (fun _ _ _ h => h) (Or.inl ⟨by rfl, ?_⟩) (by assumption) ?_
                  rotate_left
                  · intro w hSw; (try dsimp only at hSw); go_simp; all_goals (with_reducible rfl)
                  simp only [Act.put, List.setIfInBounds_toArray, List.set_cons_zero, List.set_cons_succ]
                  refine wpAnyH_takeD (i := 33) (d := some 136) (v := ?_) rfl rfl (by kernel_rfl) (by kernel_rfl) (by kernel_rfl) (fun _ _ _ h => h) (Or.inl ⟨by rfl, ?_⟩) (by assumption) ?_
                  rotate_left
                  · intro w hSw; (try dsimp only at hSw); go_simp; all_goals (with_reducible rfl)
                  simp only [Act.put, List.setIfInBounds_toArray, List.set_cons_zero, List.set_cons_succ]
                  refine wpAnyH_takeD (i := 34) (d := some 137) (v := ?_) rfl rfl (by kernel_rfl) (by kernel_rfl) (by kernel_rfl) (fun _ _ _ h => h) (Or.inl ⟨by rfl, ?_⟩) (by assumption) ?_
                  rotate_left
                  · intro w hSw; (try dsimp only at hSw); go_simp; all_goals (with_reducible rfl)
                  simp only [Act.put, List.setIfInBounds_toArray, List.set_cons_zero, List.set_cons_succ]
                  refine wpAnyH_takeD (i := 35) (d := some 138) (v := undef) rfl rfl (by kernel_rfl) (by kernel_rfl) (by kernel_rfl) (fun _ _ _ h => h) (Or.inr ⟨by rfl, rfl⟩) (by assumption) ?_
                  simp only [Act.put, List.setIfInBounds_toArray, List.set_cons_zero, List.set_cons_succ]
                  refine wpAnyH_takeD (i := 36) (d := some 139) (v := undef) rfl rfl (by kernel_rfl) (by kernel_rfl) (by kernel_rfl) (fun _ _ _ h => h) (Or.inr ⟨by rfl, rfl⟩) (by assumption) ?_
                  simp only [Act.put, List.setIfInBounds_toArray, List.set_cons_zero, List.set_cons_succ]
                  refine wpAnyH_takeD (i := 37) (d := some 140) (v := undef) rfl rfl (by kernel_rfl) (by kernel_rfl) (by kernel_rfl) (fun _ _ _ h => h) (Or.inr ⟨by rfl, rfl⟩) (by assumption) ?_
                  simp only [Act.put, List.setIfInBounds_toArray, List.set_cons_zero, List.set_cons_succ]
                  refine wpAnyH_takeD (i := 38) (d := some 141) (v := undef) rfl rfl (by kernel_rfl) (by kernel_rfl) (by kernel_rfl) (fun _ _ _ h => h) (Or.inr ⟨by rfl, rfl⟩) (by assumption) ?_
                  simp only [Act.put, List.setIfInBounds_toArray, List.set_cons_zero, List.set_cons_succ]
                  refine wpAnyH_takeD (i := 39) (d := some 142) (v := undef) rfl rfl (by kernel_rfl) (by kernel_rfl) (by kernel_rfl) (fun _ _ _ h => h) (Or.inr ⟨by rfl, rfl⟩) (by assumption) ?_
                  simp only [Act.put, List.setIfInBounds_toArray, List.set_cons_zero, List.set_cons_succ]
                  refine wpAnyH_takeD (i := 40) (d := some 143) (v := ?_) rfl rfl (by kernel_rfl) (by kernel_rfl) (by kernel_rfl) (fun _ _ _ h => h) (Or.inl ⟨by rfl, ?_⟩) (by assumption) ?_
                  rotate_left
                  · intro w hSw; (try dsimp only at hSw); go_simp; all_goals (with_reducible rfl)
                  simp only [Act.put, List.setIfInBounds_toArray, List.set_cons_zero, List.set_cons_succ]
                  refine wpAnyH_takeD (i := 41) (d := some 144) (v := ?_) rfl rfl (by kernel_rfl) (by kernel_rfl) (by kernel_rfl) (fun _ _ _ h => h) (Or.inl ⟨by rfl, ?_⟩) (by assumption) ?_
                  rotate_left
                  · intro w hSw; (try dsimp only at hSw); go_simp; all_goals (with_reducible rfl)
                  simp only [Act.put, List.setIfInBounds_toArray, List.set_cons_zero, List.set_cons_succ]
                  refine wpAnyH_done (by kernel_rfl) ?_ _
                  refine NoPanic.normal ?_
                  go_wp2_with fail
                  go_meet
                  exact ⟨rfl, ((((Below.refl _ _).drew.trans (hbA.mono (by simp))).trans (hbB.mono (by have := hbA.size; simp at this; omega))).trans (hbC.mono (by have h1 := hbA.size; have h2 := hbB.size; simp at h1; omega)))⟩
                | false =>
                  have E3 := Lib.hid ((E34.out.2) (by simpa using HIN.out))
                  refine wp_region_noPanic ?_
                  refine wp_region_held_drew (S := fun w' => w'.cell? ⟨w.heap.size, 0, none⟩ = some (.int .i32 a) ∧ w'.cell? ⟨w.heap.size, 1, none⟩ = some (.int .i32 t) ∧ w'.cell? ⟨w.heap.size, 2, none⟩ = some (.int .i64 v)) (by kernel_rfl) ⟨x0, x1, x2⟩ (fun hHeld => ?_)
                  refine wpAnyH_takeD (i := 0) (d := some 103) (v := ?_) rfl rfl (by kernel_rfl) (by kernel_rfl) (by kernel_rfl) (fun _ _ _ h => h) (Or.inl ⟨by rfl, ?_⟩) (by assumption) ?_
                  rotate_left
                  · intro w hSw; (try dsimp only at hSw); go_simp; all_goals (with_reducible rfl)
                  simp only [Act.put, List.setIfInBounds_toArray, List.set_cons_zero, List.set_cons_succ]
                  refine wpAnyH_takeD (i := 1) (d := some 104) (v := ?_) rfl rfl (by kernel_rfl) (by kernel_rfl) (by kernel_rfl) (fun _ _ _ h => h) (Or.inl ⟨by rfl, ?_⟩) (by assumption) ?_
                  rotate_left
                  · intro w hSw; (try dsimp only at hSw); go_simp; all_goals (with_reducible rfl)
                  simp only [Act.put, List.setIfInBounds_toArray, List.set_cons_zero, List.set_cons_succ]
                  refine wpAnyH_takeD (i := 2) (d := some 105) (v := ?_) rfl rfl (by kernel_rfl) (by kernel_rfl) (by kernel_rfl) (fun _ _ _ h => h) (Or.inl ⟨by rfl, ?_⟩) (by assumption) ?_
                  rotate_left
                  · intro w hSw; (try dsimp only at hSw); go_simp; all_goals (with_reducible rfl)
                  simp only [Act.put, List.setIfInBounds_toArray, List.set_cons_zero, List.set_cons_succ]
                  refine wpAnyH_takeD (i := 3) (d := some 106) (v := ?_) rfl rfl (by kernel_rfl) (by kernel_rfl) (by kernel_rfl) (fun _ _ _ h => h) (Or.inl ⟨by rfl, ?_⟩) (by assumption) ?_
                  rotate_left
                  · intro w hSw; (try dsimp only at hSw); go_simp; all_goals (with_reducible rfl)
                  simp only [Act.put, List.setIfInBounds_toArray, List.set_cons_zero, List.set_cons_succ]
                  refine wpAnyH_takeD (i := 4) (d := some 107) (v := ?_) rfl rfl (by kernel_rfl) (by kernel_rfl) (by kernel_rfl) (fun _ _ _ h => h) (Or.inl ⟨by rfl, ?_⟩) (by assumption) ?_
                  rotate_left
                  · intro w hSw; (try dsimp only at hSw); go_simp; all_goals (with_reducible rfl)
                  simp only [Act.put, List.setIfInBounds_toArray, List.set_cons_zero, List.set_cons_succ]
                  refine wpAnyH_takeD (i := 5) (d := some 108) (v := ?_) rfl rfl (by kernel_rfl) (by kernel_rfl) (by kernel_rfl) (fun _ _ _ h => h) (Or.inl ⟨by rfl, ?_⟩) (by assumption) ?_
                  rotate_left
                  · intro w hSw; (try dsimp only at hSw); go_simp; all_goals (with_reducible rfl)
                  simp only [Act.put, List.setIfInBounds_toArray, List.set_cons_zero, List.set_cons_succ]
                  refine wpAnyH_takeD (i := 7) (d := some 110) (v := ?_) rfl rfl (by kernel_rfl) (by kernel_rfl) (by kernel_rfl) (fun _ _ _ h => h) (Or.inl ⟨by rfl, ?_⟩) (by assumption) ?_
                  rotate_left
                  · intro w hSw; (try dsimp only at hSw); go_simp; all_goals (with_reducible rfl)
                  simp only [Act.put, List.setIfInBounds_toArray, List.set_cons_zero, List.set_cons_succ]
                  refine wpAnyH_takeD (i := 8) (d := some 111) (v := ?_) rfl rfl (by kernel_rfl) (by kernel_rfl) (by kernel_rfl) (fun _ _ _ h => h) (Or.inl ⟨by rfl, ?_⟩) (by assumption) ?_
                  rotate_left
                  · intro w hSw; (try dsimp only at hSw); go_simp; all_goals (with_reducible rfl)
                  simp only [Act.put, List.setIfInBounds_toArray, List.set_cons_zero, List.set_cons_succ]
                  refine wpAnyH_ready (rs := [6]) (by kernel_rfl) (by simp) ?_
                  refine AllReadyH.cons (o := _) rfl (fun K hK => ?_) AllReadyH.nil
                  go_simp
                  refine (get_any b m F a _ HTD.out ha1 ha2).mono ?_
                  rintro e wA ⟨rfl, hbA⟩
                  rw [E1.out]
                  go_wp2_with fail
                  have HTA := Lib.hid (HTD.out.keep (Keep.of_below (S := fun _ => False) hbA rfl) (fun h => h) (fun h => h))
                  have x0A := (hbA.cell (p := ⟨w.heap.size, 0, none⟩) (cell_lt x0D)).trans x0D
                  have x1A := (hbA.cell (p := ⟨w.heap.size, 1, none⟩) (cell_lt x1D)).trans x1D
                  have x2A := (hbA.cell (p := ⟨w.heap.size, 2, none⟩) (cell_lt x2D)).trans x2D
                  refine hK.out _ _ ⟨x0A, x1A, x2A⟩ (fun hHeld => ?_)
                  clear hK K
                  try simp only [Act.put, List.setIfInBounds_toArray, List.set_cons_zero, List.set_cons_succ]
                  refine wpAnyH_takeD (i := 9) (d := some 112) (v := ?_) rfl rfl (by kernel_rfl) (by kernel_rfl) (by kernel_rfl) (fun _ _ _ h => h) (Or.inl ⟨by rfl, ?_⟩) (by assumption) ?_
                  rotate_left
                  · intro w hSw; (try dsimp only at hSw); go_simp; all_goals (with_reducible rfl)
                  simp only [Act.put, List.setIfInBounds_toArray, List.set_cons_zero, List.set_cons_succ]
                  refine wpAnyH_takeD (i := 10) (d := some 113) (v := ?_) rfl rfl (by kernel_rfl) (by kernel_rfl) (by kernel_rfl) (fun _ _ _ h => h) (Or.inl ⟨by rfl, ?_⟩) (by assumption) ?_
                  rotate_left
                  · intro w hSw; (try dsimp only at hSw); go_simp; all_goals (with_reducible rfl)
                  simp only [Act.put, List.setIfInBounds_toArray, List.set_cons_zero, List.set_cons_succ]
                  refine wpAnyH_takeD (i := 11) (d := some 114) (v := ?_) rfl rfl (by kernel_rfl) (by kernel_rfl) (by kernel_rfl) (fun _ _ _ h => h) (Or.inl ⟨by rfl, ?_⟩) (by assumption) ?_
                  rotate_left
                  · intro w hSw; (try dsimp only at hSw); go_simp; all_goals (with_reducible rfl)
                  simp only [Act.put, List.setIfInBounds_toArray, List.set_cons_zero, List.set_cons_succ]
                  refine wpAnyH_takeD (i := 12) (d := some 115) (v := ?_) rfl rfl (by kernel_rfl) (by kernel_rfl) (by kernel_rfl) (fun _ _ _ h => h) (Or.inl ⟨by rfl, ?_⟩) (by assumption) ?_
                  rotate_left
                  · intro w hSw; (try dsimp only at hSw); go_simp; all_goals (with_reducible rfl)
                  simp only [Act.put, List.setIfInBounds_toArray, List.set_cons_zero, List.set_cons_succ]
                  refine wpAnyH_takeD (i := 13) (d := some 116) (v := ?_) rfl rfl (by kernel_rfl) (by kernel_rfl) (by kernel_rfl) (fun _ _ _ h => h) (Or.inl ⟨by rfl, ?_⟩) (by assumption) ?_
                  rotate_left
                  · intro w hSw; (try dsimp only at hSw); go_simp; all_goals (with_reducible rfl)
                  simp only [Act.put, List.setIfInBounds_toArray, List.set_cons_zero, List.set_cons_succ]
                  refine wpAnyH_takeD (i := 14) (d := some 117) (v := ?_) rfl rfl (by kernel_rfl) (by kernel_rfl) (by kernel_rfl) (fun _ _ _ h => h) (Or.inl ⟨by rfl, ?_⟩) (by assumption) ?_
                  rotate_left
                  · intro w hSw; (try dsimp only at hSw); go_simp; all_goals (with_reducible rfl)
                  simp only [Act.put, List.setIfInBounds_toArray, List.set_cons_zero, List.set_cons_succ]
                  refine wpAnyH_takeD (i := 16) (d := some 119) (v := ?_) rfl rfl (by kernel_rfl) (by kernel_rfl) (by kernel_rfl) (fun _ _ _ h => h) (Or.inl ⟨by rfl, ?_⟩) (by assumption) ?_
                  rotate_left
                  · intro w hSw; (try dsimp only at hSw); go_simp; all_goals (with_reducible rfl)
                  simp only [Act.put, List.setIfInBounds_toArray, List.set_cons_zero, List.set_cons_succ]
                  refine wpAnyH_takeD (i := 17) (d := some 120) (v := ?_) rfl rfl (by kernel_rfl) (by kernel_rfl) (by kernel_rfl) (fun _ _ _ h => h) (Or.inl ⟨by rfl, ?_⟩) (by assumption) ?_
                  rotate_left
                  · intro w hSw; (try dsimp only at hSw); go_simp; all_goals (with_reducible rfl)
                  simp only [Act.put, List.setIfInBounds_toArray, List.set_cons_zero, List.set_cons_succ]
                  refine wpAnyH_ready (rs := [15]) (by kernel_rfl) (by simp) ?_
                  refine AllReadyH.cons (o := _) rfl (fun K hK => ?_) AllReadyH.nil
                  go_simp
                  refine (get_any b m F t _ HTA.out ht1 ht2).mono ?_
                  rintro e wB ⟨rfl, hbB⟩
                  rw [E2.out]
                  go_wp2_with fail
                  have HTB := Lib.hid (HTA.out.keep (Keep.of_below (S := fun _ => False) hbB rfl) (fun h => h) (fun h => h))
                  have x0B := (hbB.cell (p := ⟨w.heap.size, 0, none⟩) (cell_lt x0A)).trans x0A
                  have x1B := (hbB.cell (p := ⟨w.heap.size, 1, none⟩) (cell_lt x1A)).trans x1A
                  have x2B := (hbB.cell (p := ⟨w.heap.size, 2, none⟩) (cell_lt x2A)).trans x2A
                  refine hK.out _ _ ⟨x0B, x1B, x2B⟩ (fun hHeld => ?_)
                  clear hK K
                  try simp only [Act.put, List.setIfInBounds_toArray, List.set_cons_zero, List.set_cons_succ]
                  refine wpAnyH_takeD (i := 18) (d := some 121) (v := ?_) rfl rfl (by kernel_rfl) (by kernel_rfl) (by kernel_rfl) (fun _ _ _ h => h) (Or.inl ⟨by rfl, ?_⟩) (by assumption) ?_
                  rotate_left
                  · intro w hSw; (try dsimp only at hSw); go_simp; all_goals (with_reducible rfl)
                  simp only [Act.put, List.setIfInBounds_toArray, List.set_cons_zero, List.set_cons_succ]
                  refine wpAnyH_takeD (i := 19) (d := some 122) (v := ?_) rfl rfl (by kernel_rfl) (by kernel_rfl) (by kernel_rfl) (fun _ _ _ h => h) (Or.inl ⟨by rfl, ?_⟩) (by assumption) ?_
                  rotate_left
                  · intro w hSw; (try dsimp only at hSw); go_simp; all_goals (with_reducible rfl)
                  simp only [Act.put, List.setIfInBounds_toArray, List.set_cons_zero, List.set_cons_succ]
                  refine wpAnyH_takeD (i := 20) (d := some 123) (v := ?_) rfl rfl (by kernel_rfl) (by kernel_rfl) (by kernel_rfl) (fun _ _ _ h => h) (Or.inl ⟨by rfl, ?_⟩) (by assumption) ?_
                  rotate_left
                  · intro w hSw; (try dsimp only at hSw); go_simp; all_goals (with_reducible rfl)
                  simp only [Act.put, List.setIfInBounds_toArray, List.set_cons_zero, List.set_cons_succ]
                  refine wpAnyH_takeD (i := 21) (d := some 124) (v := ?_) rfl rfl (by kernel_rfl) (by kernel_rfl) (by kernel_rfl) (fun _ _ _ h => h) (Or.inl ⟨by rfl, ?_⟩) (by assumption) ?_
                  rotate_left
                  · intro w hSw; (try dsimp only at hSw); go_simp; all_goals (with_reducible rfl)
                  simp only [Act.put, List.setIfInBounds_toArray, List.set_cons_zero, List.set_cons_succ]
                  refine wpAnyH_takeD (i := 22) (d := some 125) (v := ?_) rfl rfl (by kernel_rfl) (by kernel_rfl) (by kernel_rfl) (fun _ _ _ h => h) (Or.inl ⟨by rfl, ?_⟩) (by assumption) ?_
                  rotate_left
                  · intro w hSw; (try dsimp only at hSw); go_simp; all_goals (with_reducible rfl)
                  simp only [Act.put, List.setIfInBounds_toArray, List.set_cons_zero, List.set_cons_succ]
                  refine wpAnyH_takeD (i := 23) (d := some 126) (v := undef) rfl rfl (by kernel_rfl) (by kernel_rfl) (by kernel_rfl) (fun _ _ _ h => h) (Or.inr ⟨by rfl, rfl⟩) (by assumption) ?_
                  simp only [Act.put, List.setIfInBounds_toArray, List.set_cons_zero, List.set_cons_succ]
                  refine wpAnyH_takeD (i := 24) (d := some 127) (v := undef) rfl rfl (by kernel_rfl) (by kernel_rfl) (by kernel_rfl) (fun _ _ _ h => h) (Or.inr ⟨by rfl, rfl⟩) (by assumption) ?_
                  simp only [Act.put, List.setIfInBounds_toArray, List.set_cons_zero, List.set_cons_succ]
                  refine wpAnyH_takeD (i := 25) (d := some 128) (v := undef) rfl rfl (by kernel_rfl) (by kernel_rfl) (by kernel_rfl) (fun _ _ _ h => h) (Or.inr ⟨by rfl, rfl⟩) (by assumption) ?_
                  simp only [Act.put, List.setIfInBounds_toArray, List.set_cons_zero, List.set_cons_succ]
                  refine wpAnyH_takeD (i := 26) (d := some 129) (v := undef) rfl rfl (by kernel_rfl) (by kernel_rfl) (by kernel_rfl) (fun _ _ _ h => h) (Or.inr ⟨by rfl, rfl⟩) (by assumption) ?_
                  simp only [Act.put, List.setIfInBounds_toArray, List.set_cons_zero, List.set_cons_succ]
                  refine wpAnyH_takeD (i := 27) (d := some 130) (v := undef) rfl rfl (by kernel_rfl) (by kernel_rfl) (by kernel_rfl) (fun _ _ _ h => h) (Or.inr ⟨by rfl, rfl⟩) (by assumption) ?_
                  simp only [Act.put, List.setIfInBounds_toArray, List.set_cons_zero, List.set_cons_succ]
                  refine wpAnyH_takeD (i := 28) (d := some 131) (v := undef) rfl rfl (by kernel_rfl) (by kernel_rfl) (by kernel_rfl) (fun _ _ _ h => h) (Or.inr ⟨by rfl, rfl⟩) (by assumption) ?_
                  simp only [Act.put, List.setIfInBounds_toArray, List.set_cons_zero, List.set_cons_succ]
                  refine wpAnyH_takeD (i := 29) (d := some 132) (v := ?_) rfl rfl (by kernel_rfl) (by kernel_rfl) (by kernel_rfl) (fun _ _ _ h => h) (Or.inl ⟨by rfl, ?_⟩) (by assumption) ?_
                  rotate_left
                  · intro w hSw; (try dsimp only at hSw); go_simp; all_goals (with_reducible rfl)
                  simp only [Act.put, List.setIfInBounds_toArray, List.set_cons_zero, List.set_cons_succ]
                  refine wpAnyH_takeD (i := 30) (d := some 133) (v := ?_) rfl rfl (by kernel_rfl) (by kernel_rfl) (by kernel_rfl) (fun _ _ _ h => h) (Or.inl ⟨by rfl, ?_⟩) (by assumption) ?_
                  rotate_left
                  · intro w hSw; (try dsimp only at hSw); go_simp; all_goals (with_reducible rfl)
                  simp only [Act.put, List.setIfInBounds_toArray, List.set_cons_zero, List.set_cons_succ]
                  refine wpAnyH_takeD (i := 31) (d := some 134) (v := ?_) rfl rfl (by kernel_rfl) (by kernel_rfl) (by kernel_rfl) (fun _ _ _ h => h) (Or.inl ⟨by rfl, ?_⟩) (by assumption) ?_
                  rotate_left
                  · intro w hSw; (try dsimp only at hSw); go_simp; all_goals (with_reducible rfl)
                  simp only [Act.put, List.setIfInBounds_toArray, List.set_cons_zero, List.set_cons_succ]
                  refine wpAnyH_takeD (i := 32) (d := some 135) (v := ?_) rfl rfl (by kernel_rfl) (by kernel_rfl) (by kernel_rfl) (fun _ _ _ h => h) (Or.inl ⟨by rfl, ?_⟩) (by assumption) ?_
                  rotate_left
                  · intro w hSw; (try dsimp only at hSw); go_simp; all_goals (with_reducible rfl)
                  simp only [Act.put, List.setIfInBounds_toArray, List.set_cons_zero, List.set_cons_succ]
                  refine wpAnyH_takeD (i := 33) (d := some 136) (v := ?_) rfl rfl (by kernel_rfl) (by kernel_rfl) (by kernel_rfl) (fun _ _ _ h => h) (Or.inl ⟨by rfl, ?_⟩) (by assumption) ?_
                  rotate_left
                  · intro w hSw; (try dsimp only at hSw); go_simp; all_goals (with_reducible rfl)
                  simp only [Act.put, List.setIfInBounds_toArray, List.set_cons_zero, List.set_cons_succ]
                  refine wpAnyH_takeD (i := 34) (d := some 137) (v := ?_) rfl rfl (by kernel_rfl) (by kernel_rfl) (by kernel_rfl) (fun _ _ _ h => h) (Or.inl ⟨by rfl, ?_⟩) (by assumption) ?_
                  rotate_left
                  · intro w hSw; (try dsimp only at hSw); go_simp; all_goals (with_reducible rfl)
                  simp only [Act.put, List.setIfInBounds_toArray, List.set_cons_zero, List.set_cons_succ]
                  refine wpAnyH_takeD (i := 35) (d := some 138) (v := ?_) rfl rfl (by kernel_rfl) (by kernel_rfl) (by kernel_rfl) (fun _ _ _ h => h) (Or.inl ⟨by rfl, ?_⟩) (by assumption) ?_
                  rotate_left
                  · intro w hSw; (try dsimp only at hSw); go_simp; all_goals (with_reducible rfl)
                  simp only [Act.put, List.setIfInBounds_toArray, List.set_cons_zero, List.set_cons_succ]
                  refine wpAnyH_takeD (i := 36) (d := some 139) (v := ?_) rfl rfl (by kernel_rfl) (by kernel_rfl) (by kernel_rfl) (fun _ _ _ h => h) (Or.inl ⟨by rfl, ?_⟩) (by assumption) ?_
                  rotate_left
                  · intro w hSw; (try dsimp only at hSw); go_simp; all_goals (with_reducible rfl)
                  simp only [Act.put, List.setIfInBounds_toArray, List.set_cons_zero, List.set_cons_succ]
                  refine wpAnyH_takeD (i := 38) (d := some 141) (v := ?_) rfl rfl (by kernel_rfl) (by kernel_rfl) (by kernel_rfl) (fun _ _ _ h => h) (Or.inl ⟨by rfl, ?_⟩) (by assumption) ?_
                  rotate_left
                  · intro w hSw; (try dsimp only at hSw); go_simp; all_goals (with_reducible rfl)
                  simp only [Act.put, List.setIfInBounds_toArray, List.set_cons_zero, List.set_cons_succ]
                  refine wpAnyH_ready (rs := [37]) (by kernel_rfl) (by simp) ?_
                  refine AllReadyH.cons (o := _) rfl (fun K hK => ?_) AllReadyH.nil
                  go_simp
                  refine (get_any b m F r _ HTB.out hr1 hr2).mono ?_
                  rintro e wC ⟨rfl, hbC⟩
                  rw [E3.out]
                  go_wp2_with fail
                  have HTC := Lib.hid (HTB.out.keep (Keep.of_below (S := fun _ => False) hbC rfl) (fun h => h) (fun h => h))
                  have x0C := (hbC.cell (p := ⟨w.heap.size, 0, none⟩) (cell_lt x0B)).trans x0B
                  have x1C := (hbC.cell (p := ⟨w.heap.size, 1, none⟩) (cell_lt x1B)).trans x1B
                  have x2C := (hbC.cell (p := ⟨w.heap.size, 2, none⟩) (cell_lt x2B)).trans x2B
                  refine hK.out _ _ ⟨x0C, x1C, x2C⟩ (fun hHeld => ?_)
                  clear hK K
                  try simp only [Act.put, List.setIfInBounds_toArray, List.set_cons_zero, List.set_cons_succ]
                  refine wpAnyH_takeD (i := 39) (d := some 142) (v := ?_) rfl rfl (by kernel_rfl) (by kernel_rfl) (by kernel_rfl) (fun _ _ _ h => h) (Or.inl ⟨by rfl, ?_⟩) (by assumption) ?_
                  rotate_left
                  · intro w hSw; (try dsimp only at hSw); go_simp; all_goals (with_reducible rfl)
                  simp only [Act.put, List.setIfInBounds_toArray, List.set_cons_zero, List.set_cons_succ]
                  refine wpAnyH_takeD (i := 40) (d := some 143) (v := ?_) rfl rfl (by kernel_rfl) (by kernel_rfl) (by kernel_rfl) (fun _ _ _ h => h) (Or.inl ⟨by rfl, ?_⟩) (by assumption) ?_
                  rotate_left
                  · intro w hSw; (try dsimp only at hSw); go_simp; all_goals (with_reducible rfl)
                  simp only [Act.put, List.setIfInBounds_toArray, List.set_cons_zero, List.set_cons_succ]
                  refine wpAnyH_takeD (i := 41) (d := some 144) (v := ?_) rfl rfl (by kernel_rfl) (by kernel_rfl) (by kernel_rfl) (fun _ _ _ h => h) (Or.inl ⟨by rfl, ?_⟩) (by assumption) ?_
                  rotate_left
                  · intro w hSw; (try dsimp only at hSw); go_simp; all_goals (with_reducible rfl)
                  simp only [Act.put, List.setIfInBounds_toArray, List.set_cons_zero, List.set_cons_succ]
                  refine wpAnyH_done (by kernel_rfl) ?_ _
                  refine NoPanic.normal ?_
                  go_wp2_with fail
                  go_meet
                  exact ⟨rfl, ((((Below.refl _ _).drew.trans (hbA.mono (by simp))).trans (hbB.mono (by have := hbA.size; simp at this; omega))).trans (hbC.mono (by have h1 := hbA.size; have h2 := hbB.size; simp at h1; omega)))⟩
              case rest =>
                obtain ⟨rfl, hbc⟩ := hcut
                have hbb6 := hbb5.trans (hbc.mono hbb5.size)
                have p0 := (hbc.cell (p := ⟨w.heap.size, 0, none⟩) (cell_lt x0)).trans x0
                have p1 := (hbc.cell (p := ⟨w.heap.size, 1, none⟩) (cell_lt x1)).trans x1
                have p2 := (hbc.cell (p := ⟨w.heap.size, 2, none⟩) (cell_lt x2)).trans x2
                have hwl := cell_lt p0
                have hE0 : errOf a t = 0 := by unfold errOf; rw [if_pos ⟨h1, h2, h3⟩]
                have HE0 := Lib.hid hE0; clear hE0
                clear x0 x1 x2 x0D x1D x2D HTD HT5 E1 E2 E34 hbc hbb5
                go_wp2_with fail
                refine (new_any _ rfl 0 _).mono ?_
                rintro e w7 ⟨b', m', rfl, hb'W, hm'W, hT7, hb7⟩
                have hbb7 := hbb6.trans (hb7.mono hbb6.size)
                have y0 := (hb7.cell (p := ⟨w.heap.size, 0, none⟩) hwl).trans p0
                have y1 := (hb7.cell (p := ⟨w.heap.size, 1, none⟩) hwl).trans p1
                have y2 := (hb7.cell (p := ⟨w.heap.size, 2, none⟩) hwl).trans p2
                have HT7 := Lib.hid hT7; clear hT7
                have hwm' : ¬ w.heap.size = m' := by omega
                clear p0 p1 p2
                go_wp2_with fail
                refine (set_any b' m' _ a t v w7 HT7.out).mono ?_
                rintro e w8 ⟨rfl, hT8, hk8⟩
                rw [HE0.out]
                have q0 := hk8.cell y0 hwm'
                have q1 := hk8.cell y1 hwm'
                have HT8 := Lib.hid hT8; clear hT8
                go_wp2_with fail
                refine (set_any b' m' _ a t 0 w8 HT8.out).mono ?_
                rintro e w9 ⟨rfl, hT9, hk9⟩
                rw [HE0.out]
                have hT9' : TabAt Try.prog w9 b' m' 0 (fun _ => 0) := hT9.congr fun x _ => last_none ⟨h1, h2, h3⟩ x
                have HT9 := Lib.hid hT9'; clear hT9 hT9'
                have hbb9 := hbb7.trans ((hk8.trans hk9 (fun _ _ h => h)).below hbb7.size (fun j hj => by omega))
                clear y0 y1 y2 q0 q1 HT7 HT8 hk8 hk9
                go_wp2_with fail
                refine (all0 b' m' w9 HT9.out).mono ?_
                rintro e w10 ⟨rfl, hA, hB, hb10⟩
                have hbb10 := hbb9.trans (hb10.mono hbb9.size)
                have HT10 := Lib.hid (HT9.out.keep (Keep.of_below (S := fun _ => False) hb10 rfl) (fun h => h) (fun h => h))
                clear HT9
                have hnn := func_not_nil Try.underlying37
                go_wp2_with fail
                obtain ⟨W1, hW1⟩ : ∃ W1, w10.alloc (.cells #[.int .i64 0] 3) = W1 := ⟨_, rfl⟩
                have hs1 : W1.heap.size = w10.heap.size + 1 := by rw [← hW1]; simp
                have hB1 : Below w10.heap.size w10 W1 := by rw [← hW1]; exact (Below.refl _ _).alloc (Nat.le_refl _) _
                have hn1 : W1.cell? ⟨w10.heap.size, 0, none⟩ = some (.int .i64 0) := by rw [← hW1]; simp
                have hA1 := (hB1.cell (p := ⟨w9.heap.size, 0, none⟩) (cell_lt hA)).trans hA
                have hbb11 := hbb10.trans (hB1.mono hbb10.size)
                have HT11 := Lib.hid (HT10.out.keep (Keep.of_below (S := fun _ => False) hB1 rfl) (fun h => h) (fun h => h))
                rw [hW1]
                clear hW1 hA hB HT10 hnn
                refine (wpIn_wide (n := 9)).1 ?_
                refine wpIn_rangeFunc_ownF (F := Fence.wide) rfl (by omega) (gf := 30) (lb := #[.pointer (some ⟨w9.heap.size, 0, none⟩), .pointer (some ⟨w9.heap.size + 1, 0, none⟩)]) rfl trivial (enters_of Try.func30 (by kernel_rfl) rfl)
                  (nil_stopsI Fence.wide 8 trivial rfl (by omega) w9.heap.size (w9.heap.size + 1) KeepsWalks W1 hA1) walksK_t walksK_b (Below.refl _ _) (fun _ => rfl)
                  (fun _ W => Below W1.heap.size W1 W)
                  (fun _ _ _ => False)
                  (ownFrom_below (Nat.le_refl _) (Nat.le_refl _))
                  (fun _ _ _ _ _ hs _ _ => hs)
                  (Below.refl _ _)
                  (fun _ => { tmps := ?tm, defers := [] }) ?assign ?body ?done ?stop
                case assign =>
                  intro l x W K hK
                  gi_wp2
                  exact hK
                case body =>
                  rintro l pre x W _ h
                  exact absurd h (Nat.not_lt_zero _)
                case stop =>
                  rintro D c pre W _ h _ _
                  exact h.elim
                case done =>
                  rintro D xs W hD _ hBW hK
                  have hnW := (hBW.cell (p := ⟨w10.heap.size, 0, none⟩) (cell_lt hn1)).trans hn1
                  have HTW := Lib.hid (HT11.out.keep (Keep.of_below (S := fun _ => False) hBW rfl) (fun h => h) (fun h => h))
                  have hbbW := hbb11.trans (hBW.mono hbb11.size)
                  have hc0 : cntB 0 (fun _ => 0) = 0 := by
                    unfold cntB
                    rw [List.filter_eq_nil_iff.2 (fun a _ => by rw [apartB_false.2 fun _ _ => rfl]; simp)]
                    rfl
                  have hg0 : getF (fun _ => 0) r = 0 := by unfold getF; split <;> rfl
                  have HC0 := Lib.hid hc0; clear hc0
                  have HG0 := Lib.hid hg0; clear hg0
                  clear hn1 hA1 HT11
                  go_wp2_with fail
                  refine (blocks_any _ rfl b' m' 0 _ W HTW.out).mono ?_
                  rintro e w12 ⟨rfl, rfl⟩
                  rw [HC0.out]
                  go_wp2_with fail
                  refine (get_any b' m' _ r W HTW.out hr1 hr2).mono ?_
                  rintro e w12 ⟨rfl, hb12⟩
                  rw [HG0.out]
                  go_wp2_with fail
                  refine (awake_any _).mono ?_
                  rintro e w13 ⟨rfl, hb13⟩
                  have hK3 : w13.heap[D]? = some (.deferred (some [])) := ((hb13.block D (by have := (Array.getElem?_eq_some_iff.1 hK).1; have := hb12.size; omega)).trans (hb12.block D (Array.getElem?_eq_some_iff.1 hK).1)).trans hK
                  have hbb12 := hbbW.trans (hb12.mono hbbW.size)
                  have hbb13 := hbb12.trans (hb13.mono hbb12.size)
                  go_wp2
                  refine ⟨by simp, .inl ⟨_, _, rfl, run_takeDeferred hK3, ?_⟩⟩
                  exact ⟨_, results_tmp rfl _ _ _, rfl, hbb13.trans (belowK_b (w := w) (Nat.le_refl _) w13 D _ _ (by have := hbb11.size; omega) hK3 rfl rfl)⟩
          · have he : errOf a t = 11 := by unfold errOf; rw [if_neg hok]
            have hf2 : setF2 f a t v = f := by unfold setF2; rw [if_neg hok]
            rw [he]
            rw [hf2] at HT5
            have hor : a < 0 ∨ (¬ a < 0 ∧ 1114111 < t) ∨ (¬ a < 0 ∧ ¬ 1114111 < t ∧ t < a) := by omega
            have HG := Lib.hid hg; clear hg
            clear hok he hf2
            rcases hor with g1 | ⟨g1, g2⟩ | ⟨g1, g2, g3⟩
            all_goals
              go_wp2_with fail
              refine (get_any b m f r w5 HT5.out hr1 hr2).mono ?_
              rintro e w6 ⟨rfl, hb6⟩
              rw [HG.out]
              have hbb6 := hbb5.trans (hb6.mono hbb5.size)
              go_wp2_with fail
              refine (awake_any _).mono ?_
              rintro e w7 ⟨rfl, hb7⟩
              go_wp2
              exact ⟨_, results_tmp rfl _ _ _, rfl, hbb6.trans (hb7.mono hbb6.size)⟩

end Go.Proofs.Ytkpkcimghkmkfaa
