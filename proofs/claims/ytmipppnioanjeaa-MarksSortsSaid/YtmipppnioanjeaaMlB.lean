/-
  The law MarksSorts, walked.
-/
import Derived.Test.YtmipppnioanjeaaMkW
import Derived.Test.YtmipppnioanjeaaPl14c
import Derived.Test.YtmipppnioanjeaaMlC
import Derived.Deep.CutBlock
import Derived.Deep.DeepCutAuto
namespace Go.Proofs.Ytmipppnioanjeaa
open Go.RowKit Go.Shelf Pl14

theorem same_reflS (va vb : Value) (xs : List Int) (w : World) (ha : Rd .i32 w va xs) (hb : Rd .i32 w vb xs) :
    Calls Try.prog 17 #[va, vb] w fun e w' => e = .returned (.bool true) ∧ Below w.heap.size w w' := by
  refine (same_any va vb xs xs w ha hb).mono ?_
  rintro e w' ⟨rfl, h⟩
  exact ⟨by simp, h⟩

theorem Rd.drewS {k : IntKind} {w : World} {v : Value} {xs : List Int} (h : Rd k w v xs) : Rd k w.drew v xs := h

theorem of_rdS (va : Value) (xs ys : List Int) (c : Int) (w : World) (ha : Rd .i32 w va xs) (hreach : xs.length * 4 ≤ 140737488351232) (he : ofC c xs = ys) :
    Calls Try.prog 20 #[va, .int .i64 c] w fun e w' => ∃ a cap, e = .returned (.slice a ys.length cap) ∧ Rd .i32 w' (.slice a ys.length cap) ys ∧ Below w.heap.size w w' := by
  subst he
  refine (of_any va xs c w ha hreach).mono ?_
  rintro e w' ⟨v, rfl, h, hb⟩
  obtain ⟨a, cap, rfl, _⟩ := h.shape
  exact ⟨a, cap, rfl, h.rd, hb⟩

theorem sort_rd (va : Value) (xs ys : List Int) (w : World) (ha : Rd .i32 w va xs) (hsz : xs.length ≤ 1000000) (he : msort xs = ys) :
    Calls Try.prog 15 #[.iface 52 (.agg #[]), va] w fun e w' => ∃ a cap, e = .returned (.tuple #[.slice a ys.length cap, .int .i64 0]) ∧ Rd .i32 w' (.slice a ys.length cap) ys ∧ Below w.heap.size w w' := by
  subst he
  refine (sort_any _ _ _ _ _ xs _ (cls_small _) ha hsz).mono ?_
  rintro e w' ⟨v, rfl, h, hb⟩
  obtain ⟨a, cap, rfl, _⟩ := h.shape
  exact ⟨a, cap, rfl, h.rd, hb⟩

theorem flat_le (l : List (List Int)) (k : Nat) : (l.take k).flatten.length ≤ l.flatten.length := by
  have h : l.flatten = (l.take k).flatten ++ (l.drop k).flatten := by rw [← List.flatten_append, List.take_append_drop]
  rw [h]; simp

def classOf : List Int := [0, 1, 202, 220, 230, 240]

set_option maxRecDepth 100000 in
set_option maxHeartbeats 8000000 in
theorem sorts_walk (vl vm : Value) (xs ys : List Int) (w : World) (hl : Rd .i32 w vl xs) (hm : Rd .i32 w vm ys) :
    Calls Try.prog 5 #[vl, vm] w fun e w' => e = .returned (.bool true) ∧ Below w.heap.size w w' := by
  have hl' := hl
  obtain ⟨a, ca, rfl, ha1, ha2, ha0, ha3⟩ := hl'
  have hm' := hm
  obtain ⟨b, cb, rfl, hb1, hb2, hb0, hb3⟩ := hm'
  clear ha3 ha0 hb3 hb0
  have HL := Lib.hid hl; clear hl
  have HM := Lib.hid hm; clear hm
  by_cases hbig : 150 < xs.length ∨ 150 < ys.length
  · by_cases hx : 150 < xs.length
    · have hbg : (150 : Int) < (xs.length : Int) := by omega
      clear hbig
      go_enter Try.func5, Try.ntmps5
      go_wp2_with fail
      refine (awake_any _).mono ?_
      rintro e w1 ⟨rfl, hb1⟩
      go_wp2
      go_ret
      exact ⟨rfl, hb1⟩
    · have hbg : ¬ (150 : Int) < (xs.length : Int) := by omega
      have hbg2 : (150 : Int) < (ys.length : Int) := by omega
      clear hbig hx
      go_enter Try.func5, Try.ntmps5
      go_wp2_with fail
      refine (awake_any _).mono ?_
      rintro e w1 ⟨rfl, hb1⟩
      go_wp2
      go_ret
      exact ⟨rfl, hb1⟩
  · have hX : xs.length ≤ 150 := by omega
    have hY : ys.length ≤ 150 := by omega
    have hXi : ¬ (150 : Int) < (xs.length : Int) := by omega
    have hYi : ¬ (150 : Int) < (ys.length : Int) := by omega
    clear hbig
    obtain ⟨zs, hzs⟩ : ∃ zs, xs ++ ys = zs := ⟨_, rfl⟩
    have hZ : zs.length ≤ 300 := by rw [← hzs]; simp; omega
    obtain ⟨ss, hss⟩ : ∃ ss, msort zs = ss := ⟨_, rfl⟩
    obtain ⟨xx, hxx⟩ : ∃ xx, msort xs = xx := ⟨_, rfl⟩
    obtain ⟨yy, hyy⟩ : ∃ yy, msort ys = yy := ⟨_, rfl⟩
    have hsl : ss.length = zs.length := by rw [← hss]; exact msort_length _
    have hss2 : msort ss = ss := by rw [← hss]; exact msort_msort _
    have hxl : xx.length ≤ 150 := by rw [← hxx, msort_length]; exact hX
    have hyl : yy.length ≤ 150 := by rw [← hyy, msort_length]; exact hY
    obtain ⟨ps, hps⟩ : ∃ ps, xx ++ yy = ps := ⟨_, rfl⟩
    have hpl : ps.length ≤ 300 := by rw [← hps]; simp; omega
    have hpar : msort ps = ss := by rw [← hps, ← hxx, ← hyy, msort_parts, hzs]; exact hss
    have HPS := Lib.hid hps; clear hps
    have hcl : ∀ c, ofC c ss = ofC c zs := fun c => by rw [← hss]; exact (msort_isSort zs).ofC c
    have hnl : ((ss.length : Int) != (zs.length : Int)) = false := by simp [hsl]
    have HZS := Lib.hid hzs; clear hzs
    have HSS := Lib.hid hss; clear hss
    have HXX := Lib.hid hxx; clear hxx
    have HYY := Lib.hid hyy; clear hyy
    have HSL := Lib.hid hsl; clear hsl
    have HSS2 := Lib.hid hss2; clear hss2
    have HPAR := Lib.hid hpar; clear hpar
    have HCL := Lib.hid hcl; clear hcl
    go_enter Try.func5, Try.ntmps5
    have tok1 : True := trivial
    go_wp2_with (first
      | (at_builtin; have _t := tok1; refine wpList_appendS rune rfl _ _ rfl w.heap.size _ _ (Own.nil _ _ _ _) rfl _ _ HL.out rfl (by simp; omega) (by simp; omega) (Nat.le_refl _) ?_; intro v1 w1 hown1 hg1 _; clear tok1 _t; have hb1 : Below w.heap.size w w1 := below_append' (Below.refl _ _) (Nat.le_refl _) hg1 (fun j hj => by simp [Value.ownBlock] at hj))
      | (at_builtin; refine wpList_appendS rune rfl _ _ rfl w.heap.size _ _ hown1 rfl _ _ (HM.out.mono hb1 rfl) rfl (by simp; omega) (by simp; omega) hb1.size ?_; intro v2 w2 hown2 hg2 _; have hb2 : Below w.heap.size w w2 := below_append' hb1 hb1.size hg2 (fun j hj => hown1.lt j hj)))
    rw [show ([] ++ xs) ++ ys = zs from HZS.out] at hown2
    obtain ⟨a2, c2, rfl, _⟩ := hown2.shape
    have HALL := Lib.hid hown2.rd; clear hown2 hown1 hb1 hg1 hg2
    refine (small_any _).mono ?_
    rintro e w3 ⟨rfl, rfl⟩
    go_wp2_with fail
    refine (sort_rd _ zs ss _ HALL.out (by omega) HSS.out).mono ?_
    rintro e w3 ⟨a3, c3, rfl, ho3, hb3⟩
    have HO3 := Lib.hid ho3; clear ho3
    have hbb3 : Below w.heap.size w w3 := hb2.trans (hb3.mono hb2.size)
    go_wp2_with fail
    refine (small_any _).mono ?_
    rintro e w4 ⟨rfl, rfl⟩
    go_wp2_with fail
    refine (sort_rd _ ss ss _ HO3.out (by have := HSL.out; omega) HSS2.out).mono ?_
    rintro e w4 ⟨a4, c4, rfl, ho4, hb4⟩
    have HO4 := Lib.hid ho4; clear ho4
    have hbb4 : Below w.heap.size w w4 := hbb3.trans (hb4.mono hbb3.size)
    go_wp2_with fail
    refine (small_any _).mono ?_
    rintro e w5 ⟨rfl, rfl⟩
    go_wp2_with fail
    refine (sort_rd _ xs xx _ (HL.out.mono hbb4 rfl) (by omega) HXX.out).mono ?_
    rintro e w5 ⟨a5, c5, rfl, ho5, hb5⟩
    have HO5 := Lib.hid ho5; clear ho5
    have hbb5 : Below w.heap.size w w5 := hbb4.trans (hb5.mono hbb4.size)
    go_wp2_with fail
    refine (small_any _).mono ?_
    rintro e w6 ⟨rfl, rfl⟩
    go_wp2_with fail
    refine (sort_rd _ ys yy _ (HM.out.mono hbb5 rfl) (by omega) HYY.out).mono ?_
    rintro e w6 ⟨a6, c6, rfl, ho6, hb6⟩
    have HO6 := Lib.hid ho6; clear ho6
    have hbb6 : Below w.heap.size w w6 := hbb5.trans (hb6.mono hbb5.size)
    have tok2 : True := trivial
    go_wp2_with (first
      | (at_builtin; have _t := tok2; refine wpList_appendS rune rfl _ _ rfl w6.heap.size _ _ (Own.nil _ _ _ _) rfl _ _ (HO5.out.mono hb6 rfl) rfl (by simp; omega) (by simp; omega) (Nat.le_refl _) ?_; intro v7 w7 hown7 hg7 _; clear tok2 _t; have hb7 : Below w6.heap.size w6 w7 := below_append' (Below.refl _ _) (Nat.le_refl _) hg7 (fun j hj => by simp [Value.ownBlock] at hj))
      | (at_builtin; refine wpList_appendS rune rfl _ _ rfl w6.heap.size _ _ hown7 rfl _ _ (HO6.out.mono hb7 rfl) rfl (by simp; omega) (by simp; omega) hb7.size ?_; intro v8 w8 hown8 hg8 _; have hb8 : Below w6.heap.size w6 w8 := below_append' hb7 hb7.size hg8 (fun j hj => hown7.lt j hj)))
    rw [show ([] ++ xx) ++ yy = ps from HPS.out] at hown8
    obtain ⟨a8, c8, rfl, _⟩ := hown8.shape
    have HPT := Lib.hid hown8.rd; clear hown8 hown7 hb7 hg7 hg8
    refine (small_any _).mono ?_
    rintro e w9 ⟨rfl, rfl⟩
    go_wp2_with fail
    refine (sort_rd _ ps ss _ HPT.out (by omega) HPAR.out).mono ?_
    rintro e w9 ⟨a9, c9, rfl, ho9, hb9⟩
    have HO9 := Lib.hid ho9; clear ho9
    have b69 : Below w6.heap.size w6 w9 := hb8.trans (hb9.mono hb8.size)
    have b59 : Below w5.heap.size w5 w9 := hb6.trans (b69.mono hb6.size)
    have b49 : Below w4.heap.size w4 w9 := hb5.trans (b59.mono hb5.size)
    have b39 : Below w3.heap.size w3 w9 := hb4.trans (b49.mono hb4.size)
    have b29 : Below w2.heap.size w2 w9 := hb3.trans (b39.mono hb3.size)
    have hbb9 : Below w.heap.size w w9 := hb2.trans (b29.mono hb2.size)
    have HALL9 := Lib.hid (HALL.out.mono b29 rfl)
    have HA9 := Lib.hid (HO3.out.mono b39 rfl)
    have HB9 := Lib.hid (HO4.out.mono b49 rfl)
    clear HALL HO3 HO4 HO5 HO6 HPT hb2 hb3 hb4 hb5 hb6 hb8 hb9 hbb3 hbb4 hbb5 hbb6 b69 b59 b49 b39 b29
    go_wp2_with fail
    refine (same_reflS _ _ ss _ HA9.out HB9.out).mono ?_
    rintro e w10 ⟨rfl, hb10⟩
    go_wp2_with fail
    refine (same_reflS _ _ ss _ (HA9.out.mono hb10 rfl) (HO9.out.mono hb10 rfl)).mono ?_
    rintro e w11 ⟨rfl, hb11⟩
    have b911 : Below w9.heap.size w9 w11 := hb10.trans (hb11.mono hb10.size)
    have hbb11 : Below w.heap.size w w11 := hbb9.trans (b911.mono hbb9.size)
    have HALL11 := Lib.hid (HALL9.out.mono b911 rfl)
    have HA11 := Lib.hid (HA9.out.mono b911 rfl)
    clear HALL9 HA9 HB9 HO9 hb10 hb11 b911
    go_wp2_with fail
    go_loopw [18] (fun i wr => ∃ j : Nat, j ≤ 6 ∧ i = .int .i64 j ∧ Below w11.heap.size w11 wr ∧ w11.heap.size < wr.heap.size ∧ ∀ k, k < 6 → wr.cell? ⟨w11.heap.size, k, none⟩ = some (.int .i64 (classOf.getD k 0))) (fun i _ => 6 - (intOf i).toNat)
    case atStart =>
      refine ⟨0, Nat.zero_le _, rfl, (Below.refl _ _).alloc (Nat.le_refl _) _, by simp, fun k hk => ?_⟩
      have hbk := (Blk.new w11 #[.int .i64 0, .int .i64 1, .int .i64 202, .int .i64 220, .int .i64 230, .int .i64 240] 3).cell k
      refine Eq.trans ?_ (hbk.trans ?_)
      · rfl
      · rcases k with _ | _ | _ | _ | _ | _ | k <;> first | rfl | omega
    case round =>
      obtain ⟨j, hj, rfl, hbl, hsz, hcs⟩ := hrel
      by_cases hlt : j < 6
      · have hcj := hcs j hlt
        obtain ⟨c, hc⟩ : ∃ c, classOf.getD j 0 = c := ⟨_, rfl⟩
        rw [hc] at hcj
        obtain ⟨O, hO⟩ : ∃ O, ofC c zs = O := ⟨_, rfl⟩
        have hO2 : ofC c ss = O := by rw [HCL.out]; exact hO
        have HO1 := Lib.hid hO; clear hO
        have HO2 := Lib.hid hO2; clear hO2
        have HSZ := Lib.hid hcs; clear hcs
        have HCC := Lib.hid hc; clear hc
        have HZR := Lib.hid (HALL11.out.mono hbl rfl).drewS
        have HSR := Lib.hid (HA11.out.mono hbl rfl).drewS
        have tokO : True := trivial
        have i1 : (0 : Int) ≤ (j : Int) := by omega
        have i2 : (j : Int) < 6 := by omega
        go_wp2
        go_region_held3 (fun w' => w'.cell? ⟨w11.heap.size, j, none⟩ = some (.int .i64 c)) (first | go_keep | (rw [hbC.cell (by have h1 := hbA.size; have h2 := hbB.size; simp at h1 ⊢; omega)]; assumption) | (rw [hbB.cell (by have h1 := hbA.size; simp at h1 ⊢; omega)]; assumption) | (rw [hbA.cell (by simp; omega)]; assumption))
          (first
            | (go_at_call 17; refine (same_reflS _ _ O _ (hoA.mono hbB rfl) hoB).mono ?_; rintro e w' ⟨rfl, hbC⟩)
            | (go_at_call 20; have _t := tokO; refine (of_rdS (.slice a2 zs.length c2) zs O c _ HZR.out (by omega) HO1.out).mono ?_; rintro e wA ⟨pA, qA, rfl, hoA, hbA⟩; clear tokO _t)
            | (go_at_call 20; refine (of_rdS (.slice a3 ss.length c3) ss O c _ (HSR.out.mono hbA rfl) (by have := HSL.out; omega) HO2.out).mono ?_; rintro e wB ⟨pB, qB, rfl, hoB, hbB⟩))
        go_wp2
        go_roundw
        case rel =>
          have hA0 : Below wr.heap.size wr wA := (Below.refl _ _).drew.trans (hbA.mono (by simp))
          have h1 : Below wr.heap.size wr wB := hA0.trans (hbB.mono hA0.size)
          have h2 : Below wr.heap.size wr w' := h1.trans (hbC.mono h1.size)
          exact ⟨j + 1, by omega, by go_num, hbl.trans (h2.mono hbl.size), by have := h2.size; omega, fun k hk => by rw [h2.cell hsz]; exact HSZ.out k hk⟩
        case measure => simp [intOf]; omega
      · have hj6 : ¬ (j : Int) < 6 := by omega
        have hbb := hbb11.trans (hbl.mono hbb11.size)
        have HALLr := Lib.hid (HALL11.out.mono hbl rfl)
        clear hcs HA11 HCL HPS HPAR HSS2
        go_wp2_with fail
        refine (small_any _).mono ?_
        rintro e w12 ⟨rfl, rfl⟩
        go_wp2_with fail
        refine (sequences_any _ zs _ HALLr.out (by omega)).mono ?_
        rintro e w12 ⟨o12, vs, rfl, ho12, hb12⟩
        have hq := Lib.hid ho12.rd; clear ho12
        have HALL12 := Lib.hid (HALLr.out.mono hb12 rfl); clear HALLr
        have hbb12 := hbb.trans (hb12.mono hbb.size)
        obtain ⟨M, hM⟩ : ∃ M, (seqs zs).length = M := ⟨_, rfl⟩
        obtain ⟨a12, c12, hv12, h12a, h12b⟩ := hq.out.shape
        rw [hM] at hv12 h12a
        subst hv12
        have hM1 : M ≤ zs.length := by
          rw [← hM]
          have := seqs_take_length zs zs.length
          rw [List.take_length] at this; exact this
        have HM := Lib.hid hM; clear hM
        have hfl : (seqs zs).flatten = zs := flatten_seqs zs
        have HFL := Lib.hid hfl; clear hfl
        go_wp2
        go_loopw [21, 22] (fun v i wx => ∃ j : Nat, j ≤ M ∧ i = .int .i64 j ∧ Own 21 .i32 w12.heap.size wx v ((seqs zs).take j).flatten ∧ Below w12.heap.size w12 wx) (fun _ i _ => M - (intOf i).toNat)
        case atStart => exact ⟨0, Nat.zero_le _, rfl, Own.nil _ _ _ _, Below.refl _ _⟩
        case round =>
          obtain ⟨k, hk, rfl, hown, hbk⟩ := hrel
          have HOW := Lib.hid hown; clear hown
          by_cases hlt2 : k < M
          · obtain ⟨b6, q6, cap6, u, h1, h2, h3⟩ := hq.out.row k (by rw [HM.out]; exact hlt2)
            simp only [Value.slice.injEq] at h1
            obtain ⟨rfl, hMM, rfl⟩ := h1
            clear hMM
            have hfk := flat_take (seqs zs) k (by rw [HM.out]; exact hlt2)
            have hfle := flat_le (seqs zs) (k + 1)
            rw [hfk, HFL.out] at hfle
            obtain ⟨R, hR⟩ : ∃ R, (seqs zs).getD k [] = R := ⟨_, rfl⟩
            rw [hR] at h3 hfk hfle
            rw [List.length_append] at hfle
            have c6r : wr.cell? ⟨b6, q6 + k, none⟩ = some u := by rw [hbk.cell (cell_lt h2)]; exact h2
            have HRU := Lib.hid (h3.mono hbk rfl)
            have HFK := Lib.hid hfk
            have HFE := Lib.hid hfle
            clear h3 h2 hfk hfle hR
            have i1 : (0 : Int) ≤ (k : Int) := by omega
            have i2 : (k : Int) < (M : Int) := by omega
            go_wp2_with (at_builtin; refine wpList_appendS rune rfl _ _ rfl w12.heap.size _ _ HOW.out rfl _ _ HRU.out rfl (by have := HFE.out; omega) (by have := HFE.out; omega) hbk.size ?_; intro v3 w3 hown3 hg3 _)
            go_wp2
            go_roundw
            case rel => exact ⟨k + 1, by omega, by go_num, by rw [HFK.out]; exact hown3, below_append' hbk hbk.size hg3 (fun j hj => HOW.out.lt j hj)⟩
            case measure => simp [intOf]; omega
          · have hend := HOW.out
            rw [List.take_of_length_le (by rw [HM.out]; omega), HFL.out] at hend
            have HEND := Lib.hid hend; clear hend
            have hi : ¬ (k : Int) < (M : Int) := by omega
            have hbb13 := hbb12.trans (hbk.mono hbb12.size)
            go_wp2_with fail
            refine (same_reflS _ _ zs _ HEND.out.rd (HALL12.out.mono hbk rfl)).mono ?_
            rintro e w13 ⟨rfl, hb13⟩
            have hbb14 := hbb13.trans (hb13.mono hbb13.size)
            go_wp2_with fail
            refine (awake_any _).mono ?_
            rintro e w14 ⟨rfl, hb14⟩
            go_wp2
            go_ret
            exact ⟨rfl, hbb14.trans (hb14.mono hbb14.size)⟩

end Go.Proofs.Ytmipppnioanjeaa
