/-
  The law MarksBases, walked.
-/
import Derived.Test.YtmipppnioanjeaaMkW
import Derived.Test.YtmipppnioanjeaaPl14c
import Derived.Deep.CutBlock
import Derived.Deep.DeepCutAuto
namespace Go.Proofs.Ytmipppnioanjeaa
open Go.RowKit Go.Shelf Pl14

theorem Rd.drew' {k : IntKind} {w : World} {v : Value} {xs : List Int} (h : Rd k w v xs) : Rd k w.drew v xs := h

theorem same_refl' (va vb : Value) (xs : List Int) (w : World) (ha : Rd .i32 w va xs) (hb : Rd .i32 w vb xs) :
    Calls Try.prog 17 #[va, vb] w fun e w' => e = .returned (.bool true) ∧ Below w.heap.size w w' := by
  refine (same_any va vb xs xs w ha hb).mono ?_
  rintro e w' ⟨rfl, h⟩
  exact ⟨by simp, h⟩

theorem of_rd (va : Value) (xs ys : List Int) (c : Int) (w : World) (ha : Rd .i32 w va xs) (hreach : xs.length * 4 ≤ 140737488351232) (he : ofC c xs = ys) :
    Calls Try.prog 20 #[va, .int .i64 c] w fun e w' => ∃ a cap, e = .returned (.slice a ys.length cap) ∧ Rd .i32 w' (.slice a ys.length cap) ys ∧ Below w.heap.size w w' := by
  subst he
  refine (of_any va xs c w ha hreach).mono ?_
  rintro e w' ⟨v, rfl, h, hb⟩
  obtain ⟨a, cap, rfl, _⟩ := h.shape
  exact ⟨a, cap, rfl, h.rd, hb⟩

theorem wpAnyH_takeD {P : Program} {ops : Array Oper} {Q : Exit → Act → World → Prop} {md : Region.Mode} {S : World → Prop} {i : Nat} {oi : Oper} {d : Option Tmp} {v : Value} {fuel : Nat} {listed : Array Bool} {a : Act} {w : World} (hi : ops[i]? = some oi) (hd : oi.dst = d)
    (hs : Region.noSelect ops = true) (hf : Region.free md ops listed i = true) (hr : (Region.ready md ops listed).contains i = true)
    (hQ : ∀ c a w, Q (.panic c) (a.put d v) w → Q (.panic c) a w) (hy : YieldsIf P ops S oi v a) (hS : S w)
    (h : wpAnyH P md ops Q S fuel (listed.setIfInBounds i true) (a.put d v) w) : wpAnyH P md ops Q S (fuel + 1) listed a w := by
  subst hd
  exact wpAnyH_take hi hs hf hr hQ hy hS h

set_option maxRecDepth 100000 in
set_option maxHeartbeats 8000000 in
theorem bases_walk (vl : Value) (xs : List Int) (w : World) (hl : Rd .i32 w vl xs) :
    Calls Try.prog 6 #[vl] w fun e w' => e = .returned (.bool true) ∧ Below w.heap.size w w' := by
  have hl' := hl
  obtain ⟨a, ca, rfl, ha1, ha2, ha0, ha3⟩ := hl'
  have HL := Lib.hid hl; clear hl
  by_cases hbig : 300 < xs.length
  · have hbg : (300 : Int) < (xs.length : Int) := by omega
    clear ha3 ha0
    go_enter Try.func6, Try.ntmps6
    go_wp2_with fail
    refine (awake_any _).mono ?_
    rintro e w1 ⟨rfl, hb1⟩
    go_wp2
    go_ret
    exact ⟨rfl, hb1⟩
  · have hN : xs.length ≤ 300 := by omega
    have hNi : ¬ (300 : Int) < (xs.length : Int) := by omega
    have HA := Lib.hid ha3; clear ha3 ha0 hbig
    have hlb := behind_length xs
    have hla := ahead_length xs
    have hls := msort_length xs
    have hna := nilAhead_small
    have hme := method_small
    obtain ⟨M, hM⟩ : ∃ M, (seqs xs).length = M := ⟨_, rfl⟩
    obtain ⟨K, hK⟩ : ∃ K, (ofC 0 xs).length = K := ⟨_, rfl⟩
    have hMK := seqs_count xs
    rw [hM, hK] at hMK
    have hKN : K ≤ xs.length := by rw [← hK]; exact List.length_filter_le _ _
    have HM := Lib.hid hM; clear hM
    have HK := Lib.hid hK; clear hK
    have HMK := Lib.hid hMK; clear hMK
    have HLB := Lib.hid hlb; clear hlb
    have HLA := Lib.hid hla; clear hla
    have HLS := Lib.hid hls; clear hls
    go_enter Try.func6, Try.ntmps6
    go_wp2_with fail
    refine (small_any _).mono ?_
    rintro e w1 ⟨rfl, rfl⟩
    go_wp2_with fail
    refine (behind_any _ xs _ HL.out (by omega)).mono ?_
    rintro e w1 ⟨o1, rfl, ho1, hb1⟩
    have HO1 := Lib.hid ho1.rd; clear ho1
    go_wp2_with fail
    refine (small_any _).mono ?_
    rintro e w3 ⟨rfl, rfl⟩
    go_wp2_with fail
    refine (ahead_any _ xs _ (HL.out.mono hb1 rfl) (by omega)).mono ?_
    rintro e w3 ⟨o3, rfl, ho3, hb3⟩
    have HO3 := Lib.hid ho3.rd; clear ho3
    have hbb3 : Below w.heap.size w w3 := hb1.trans (hb3.mono hb1.size)
    go_wp2_with fail
    refine (small_any _).mono ?_
    rintro e w5 ⟨rfl, rfl⟩
    go_wp2_with fail
    refine (sort_any _ _ _ _ _ xs _ (cls_small _) (HL.out.mono hbb3 rfl) (by omega)).mono ?_
    rintro e w5 ⟨o5, rfl, ho5, hb5⟩
    have HO5 := Lib.hid ho5.rd; clear ho5
    have hbb5 : Below w.heap.size w w5 := hbb3.trans (hb5.mono hbb3.size)
    go_wp2_with fail
    refine (small_any _).mono ?_
    rintro e w6 ⟨rfl, rfl⟩
    go_wp2_with fail
    refine (sequences_any _ xs _ (HL.out.mono hbb5 rfl) (by omega)).mono ?_
    rintro e w6 ⟨o6, vs, rfl, ho6, hb6⟩
    have HO6 := Lib.hid ho6.rd; clear ho6
    have hbb6 : Below w.heap.size w w6 := hbb5.trans (hb6.mono hbb5.size)
    go_wp2_with fail
    refine (of_rd _ xs (ofC 0 xs) 0 _ (HL.out.mono hbb6 rfl) (by omega) rfl).mono ?_
    rintro e w7 ⟨a7, c7, rfl, ho7, hb7⟩
    have hbb7 : Below w.heap.size w w7 := hbb6.trans (hb7.mono hbb6.size)
    rw [HK.out] at ho7 ⊢
    have HO7 := Lib.hid ho7; clear ho7
    have b57 : Below w5.heap.size w5 w7 := hb6.trans (hb7.mono hb6.size)
    have b37 : Below w3.heap.size w3 w7 := hb5.trans (b57.mono hb5.size)
    have b17 : Below w1.heap.size w1 w7 := hb3.trans (b37.mono hb3.size)
    go_wp2_with fail
    refine (of_rd _ (behind xs) (ofC 0 xs) 0 _ (HO1.out.mono b17 rfl) (by have := HLB.out; omega) (bases_behind xs)).mono ?_
    rintro e w8 ⟨a8, c8, rfl, ho8, hb8⟩
    go_wp2_with fail
    refine (same_refl' _ _ (ofC 0 xs) _ ho8 (HO7.out.mono hb8 rfl)).mono ?_
    rintro e w9 ⟨rfl, hb9⟩
    have b79 : Below w7.heap.size w7 w9 := hb8.trans (hb9.mono hb8.size)
    clear ho8 hb8 hb9 HO1 b17
    go_wp2_with fail
    refine (of_rd _ (Pl14.ahead xs) (ofC 0 xs) 0 _ ((HO3.out.mono b37 rfl).mono b79 rfl) (by have := HLA.out; omega) (bases_ahead xs)).mono ?_
    rintro e w10 ⟨a10, c10, rfl, ho10, hb10⟩
    go_wp2_with fail
    refine (same_refl' _ _ (ofC 0 xs) _ ho10 ((HO7.out.mono b79 rfl).mono hb10 rfl)).mono ?_
    rintro e w11 ⟨rfl, hb11⟩
    have b711 : Below w7.heap.size w7 w11 := (b79.trans (hb10.mono b79.size)).trans (hb11.mono (Nat.le_trans b79.size hb10.size))
    clear ho10 hb10 hb11 HO3 b37 b79
    go_wp2_with fail
    refine (of_rd _ (msort xs) (ofC 0 xs) 0 _ ((HO5.out.mono b57 rfl).mono b711 rfl) (by have := HLS.out; omega) ((msort_isSort xs).ofC 0)).mono ?_
    rintro e w12 ⟨a12, c12, rfl, ho12, hb12⟩
    go_wp2_with fail
    refine (same_refl' _ _ (ofC 0 xs) _ ho12 ((HO7.out.mono b711 rfl).mono hb12 rfl)).mono ?_
    rintro e w13 ⟨rfl, hb13⟩
    have b713 : Below w7.heap.size w7 w13 := (b711.trans (hb12.mono b711.size)).trans (hb13.mono (Nat.le_trans b711.size hb12.size))
    clear ho12 hb12 hb13 HO5 b57 b711
    have hbb13 : Below w.heap.size w w13 := hbb7.trans (b713.mono hbb7.size)
    have hq6 := Lib.hid ((HO6.out.keep hb7 rfl).keep b713 rfl)
    obtain ⟨a6, c6, hv6, h6a, h6b⟩ := hq6.out.shape
    rw [HM.out] at hv6 h6a
    subst hv6
    clear HO6 HO7 hb1 hb3 hb5 hb6 hb7 hbb3 hbb5 hbb6 hbb7 b713 HLB HLA HLS
    go_upto_region 11 with fail
    go_cut [101] (fun s101 wx => ∃ t : Bool, s101 = .bool t ∧ (t = true ↔ 0 < xs.length ∧ cls (xs.getD 0 0) ≠ 0) ∧ Below w13.heap.size w13 wx)
    case first =>
      by_cases hpos : 0 < xs.length
      · have hpi : (0 : Int) < (xs.length : Int) := by omega
        have hpd : decide (0 < xs.length) = true := decide_eq_true hpos
        rcases HA.out with rfl | ⟨b1, q1, rfl, hc1⟩
        · simp at hpos
        have c1 : w13.cell? ⟨b1, q1, none⟩ = some (.int .i32 (xs.getD 0 0)) := by
          have := hc1 0 hpos
          rw [Nat.add_zero] at this
          rw [hbb13.cell (cell_lt this)]; exact this
        have hb13 : b1 < w13.heap.size := cell_lt c1
        clear hc1
        obtain ⟨x, hx⟩ : ∃ x, xs.getD 0 0 = x := ⟨_, rfl⟩
        rw [hx] at c1
        have HX := Lib.hid hx; clear hx
        have HP := Lib.hid hpos
        go_region_held3 (fun w' => w'.cell? ⟨b1, q1, none⟩ = some (.int .i32 x)) (first | go_keep | (rw [hb.cell (by simp; omega)]; assumption))
          (first | (go_at_call 11; refine (small_any _).mono ?_; rintro e w' ⟨rfl, rfl⟩) | (go_at_call 30; refine (class_any _ _).mono ?_; rintro e w' ⟨rfl, hb⟩))
        go_wp2_with fail
        go_meet
        have := HP.out
        rw [HX.out]
        refine ⟨_, rfl, ?_, (Below.refl _ _).drew.trans (hb.mono (by simp))⟩
        simp
        omega
      · have hpd : decide (0 < xs.length) = false := decide_eq_false hpos
        have hpi : ¬ (0 : Int) < (xs.length : Int) := by omega
        refine wp_region_held_drew (S := fun _ => True) (by kernel_rfl) trivial (fun hHeld => ?_)
        refine wpAnyH_takeD (i := 0) (d := some 88) (v := ?_) rfl rfl (by kernel_rfl) (by kernel_rfl) (by kernel_rfl) (fun _ _ _ h => h) (Or.inl ⟨by rfl, ?_⟩) (by assumption) ?_
        rotate_left
        · intro w hSw; (try dsimp only at hSw); go_simp; all_goals (with_reducible rfl)
        simp only [Act.put, List.setIfInBounds_toArray, List.set_cons_zero, List.set_cons_succ]
        refine wpAnyH_takeD (i := 1) (d := some 89) (v := ?_) rfl rfl (by kernel_rfl) (by kernel_rfl) (by kernel_rfl) (fun _ _ _ h => h) (Or.inl ⟨by rfl, ?_⟩) (by assumption) ?_
        rotate_left
        · intro w hSw; (try dsimp only at hSw); go_simp; all_goals (with_reducible rfl)
        simp only [Act.put, List.setIfInBounds_toArray, List.set_cons_zero, List.set_cons_succ]
        refine wpAnyH_takeD (i := 2) (d := some 90) (v := ?_) rfl rfl (by kernel_rfl) (by kernel_rfl) (by kernel_rfl) (fun _ _ _ h => h) (Or.inl ⟨by rfl, ?_⟩) (by assumption) ?_
        rotate_left
        · intro w hSw; (try dsimp only at hSw); go_simp; all_goals (with_reducible rfl)
        simp only [Act.put, List.setIfInBounds_toArray, List.set_cons_zero, List.set_cons_succ]
        refine wpAnyH_takeD (i := 3) (d := some 91) (v := ?_) rfl rfl (by kernel_rfl) (by kernel_rfl) (by kernel_rfl) (fun _ _ _ h => h) (Or.inl ⟨by rfl, ?_⟩) (by assumption) ?_
        rotate_left
        · intro w hSw; (try dsimp only at hSw); go_simp; all_goals (with_reducible rfl)
        simp only [Act.put, List.setIfInBounds_toArray, List.set_cons_zero, List.set_cons_succ]
        refine wpAnyH_takeD (i := 4) (d := some 92) (v := undef) rfl rfl (by kernel_rfl) (by kernel_rfl) (by kernel_rfl) (fun _ _ _ h => h) (Or.inr ⟨by rfl, rfl⟩) (by assumption) ?_
        simp only [Act.put, List.setIfInBounds_toArray, List.set_cons_zero, List.set_cons_succ]
        refine wpAnyH_takeD (i := 5) (d := some 93) (v := undef) rfl rfl (by kernel_rfl) (by kernel_rfl) (by kernel_rfl) (fun _ _ _ h => h) (Or.inr ⟨by rfl, rfl⟩) (by assumption) ?_
        simp only [Act.put, List.setIfInBounds_toArray, List.set_cons_zero, List.set_cons_succ]
        refine wpAnyH_takeD (i := 6) (d := some 94) (v := undef) rfl rfl (by kernel_rfl) (by kernel_rfl) (by kernel_rfl) (fun _ _ _ h => h) (Or.inr ⟨by rfl, rfl⟩) (by assumption) ?_
        simp only [Act.put, List.setIfInBounds_toArray, List.set_cons_zero, List.set_cons_succ]
        refine wpAnyH_takeD (i := 7) (d := some 95) (v := undef) rfl rfl (by kernel_rfl) (by kernel_rfl) (by kernel_rfl) (fun _ _ _ h => h) (Or.inr ⟨by rfl, rfl⟩) (by assumption) ?_
        simp only [Act.put, List.setIfInBounds_toArray, List.set_cons_zero, List.set_cons_succ]
        refine wpAnyH_takeD (i := 8) (d := some 96) (v := undef) rfl rfl (by kernel_rfl) (by kernel_rfl) (by kernel_rfl) (fun _ _ _ h => h) (Or.inr ⟨by rfl, rfl⟩) (by assumption) ?_
        simp only [Act.put, List.setIfInBounds_toArray, List.set_cons_zero, List.set_cons_succ]
        refine wpAnyH_takeD (i := 9) (d := some 97) (v := undef) rfl rfl (by kernel_rfl) (by kernel_rfl) (by kernel_rfl) (fun _ _ _ h => h) (Or.inr ⟨by rfl, rfl⟩) (by assumption) ?_
        simp only [Act.put, List.setIfInBounds_toArray, List.set_cons_zero, List.set_cons_succ]
        refine wpAnyH_takeD (i := 10) (d := some 98) (v := undef) rfl rfl (by kernel_rfl) (by kernel_rfl) (by kernel_rfl) (fun _ _ _ h => h) (Or.inr ⟨by rfl, rfl⟩) (by assumption) ?_
        simp only [Act.put, List.setIfInBounds_toArray, List.set_cons_zero, List.set_cons_succ]
        refine wpAnyH_takeD (i := 11) (d := some 99) (v := undef) rfl rfl (by kernel_rfl) (by kernel_rfl) (by kernel_rfl) (fun _ _ _ h => h) (Or.inr ⟨by rfl, rfl⟩) (by assumption) ?_
        simp only [Act.put, List.setIfInBounds_toArray, List.set_cons_zero, List.set_cons_succ]
        refine wpAnyH_takeD (i := 12) (d := some 100) (v := undef) rfl rfl (by kernel_rfl) (by kernel_rfl) (by kernel_rfl) (fun _ _ _ h => h) (Or.inr ⟨by rfl, rfl⟩) (by assumption) ?_
        simp only [Act.put, List.setIfInBounds_toArray, List.set_cons_zero, List.set_cons_succ]
        refine wpAnyH_takeD (i := 13) (d := some 101) (v := ?_) rfl rfl (by kernel_rfl) (by kernel_rfl) (by kernel_rfl) (fun _ _ _ h => h) (Or.inl ⟨by rfl, ?_⟩) (by assumption) ?_
        rotate_left
        · intro w hSw; (try dsimp only at hSw); go_simp; all_goals (with_reducible rfl)
        simp only [Act.put, List.setIfInBounds_toArray, List.set_cons_zero, List.set_cons_succ]
        refine wpAnyH_done (by kernel_rfl) ?_ _
        go_wp2_with fail
        go_meet
        exact ⟨_, rfl, ⟨(fun h => by cases h), fun h => absurd h.1 hpos⟩, (Below.refl _ _).drew⟩
    case rest =>
      obtain ⟨t, rfl, ht, hbt⟩ := hcut
      have HT := Lib.hid ht; clear ht
      go_upto_if 101 with fail
      go_cut [14] (fun s14 wx => s14 = .int .i64 M ∧ Below w13.heap.size w13 wx)
      case first =>
        cases t with
        | true =>
          have hkm : IntKind.i64.wrap ((K : Int) + 1) = (M : Int) := by
            have := HMK.out
            rw [if_pos (HT.out.1 rfl)] at this
            rw [IntWalk.i64_in _ (by omega)]; omega
          go_wp2_with fail
          go_meet
          exact ⟨by first | rfl | rw [hkm], hbt⟩
        | false =>
          have hkm : K = M := by
            have := HMK.out
            rw [if_neg (fun h => by have := HT.out.2 h; cases this)] at this
            omega
          go_wp2_with fail
          go_meet
          exact ⟨by first | rfl | rw [hkm], hbt⟩
      case rest =>
        obtain ⟨rfl, hbs⟩ := hcut
        have hbb := hbb13.trans (hbs.mono hbb13.size)
        have hq7 := Lib.hid (hq6.out.keep hbs rfl)
        clear hq6 hbt HT HMK HK hKN
        obtain ⟨W, hW⟩ : ∃ W, wc = W := ⟨_, rfl⟩
        subst hW
        go_wp2
        go_loopw [15] (fun i wr => ∃ j : Nat, j ≤ M ∧ i = .int .i64 j ∧ Below wc.heap.size wc wr) (fun i _ => M - (intOf i).toNat)
        case atStart => exact ⟨0, Nat.zero_le _, rfl, Below.refl _ _⟩
        case round =>
          obtain ⟨j, hj, rfl, hbl⟩ := hrel
          have hbr := hbb.trans (hbl.mono hbb.size)
          by_cases hlt : j < M
          · obtain ⟨b6, q6, cap6, u, h1, h2, h3⟩ := hq7.out.row j (by rw [HM.out]; exact hlt)
            simp only [Value.slice.injEq] at h1
            obtain ⟨rfl, hMM, rfl⟩ := h1
            clear hMM
            have hP := seqP xs
            have hj' : j < (seqs xs).length := by rw [HM.out]; exact hlt
            obtain ⟨R, hR⟩ : ∃ R, (seqs xs).getD j [] = R := ⟨_, rfl⟩
            rw [hR] at h3
            have hne : R ≠ [] := by rw [← hR]; exact hP.ne j hj'
            have hbase : 0 < j → cls (R.getD 0 0) = 0 := by rw [← hR]; exact fun h0 => hP.base j h0 hj'
            have hfew : (ofC 0 R).length ≤ 1 := by rw [← hR]; exact hP.few j hj'
            have hRL : R.length ≤ 300 := by rw [← hR]; exact Nat.le_trans (seqs_part_length xs j) hN
            clear hP hj' hR
            obtain ⟨O, hO⟩ : ∃ O, ofC 0 R = O := ⟨_, rfl⟩
            rw [hO] at hfew
            have HO := Lib.hid hO; clear hO
            have hR0 : 0 < R.length := List.length_pos_iff.2 hne
            clear hne
            have h3' := h3
            obtain ⟨au, cu, rfl, hu1, hu2, hu0, hu3⟩ := h3'
            rcases hu3 with rfl | ⟨bu, qu, rfl, hcu⟩
            · simp at hR0
            have cu0 : wc.cell? ⟨bu, qu, none⟩ = some (.int .i32 (R.getD 0 0)) := by have := hcu 0 hR0; rw [Nat.add_zero] at this; exact this
            have cur : wr.cell? ⟨bu, qu, none⟩ = some (.int .i32 (R.getD 0 0)) := by rw [hbl.cell (cell_lt cu0)]; exact cu0
            have c6r : wr.cell? ⟨b6, q6 + j, none⟩ = some (.slice (some ⟨bu, qu, none⟩) R.length cu) := by rw [hbl.cell (cell_lt h2)]; exact h2
            have HRU := Lib.hid (h3.mono hbl rfl)
            clear h3 hcu h2 hu0 cu0
            obtain ⟨x, hx⟩ : ∃ x, R.getD 0 0 = x := ⟨_, rfl⟩
            rw [hx] at hbase cur
            have HBS := Lib.hid hbase; clear hbase hx
            have hb6 : b6 < wr.heap.size := cell_lt c6r
            have hbu : bu < wr.heap.size := cell_lt cur
            have i1 : (0 : Int) ≤ (j : Int) := by omega
            have i2 : (j : Int) < (M : Int) := by omega
            have i3 : (0 : Int) < (R.length : Int) := by omega
            have e1 : ((R.length : Int) == 0) = false := by rw [beq_eq_false_iff_ne]; omega
            have e2 : decide (R.length = 0) = false := decide_eq_false (by omega)
            have e3 : ¬ R.length = 0 := by omega
            have e4 : R ≠ [] := by intro e; rw [e] at hR0; simp at hR0
            have e5 : ¬ (1 : Int) < (O.length : Int) := by omega
            have e6 : decide (1 < O.length) = false := decide_eq_false (by omega)
            have e7 : ¬ 1 < O.length := by omega
            have HRL := Lib.hid hRL; clear hRL
            by_cases hj0 : 0 < j
            · have hx0 : cls x = 0 := HBS.out hj0
              have k1 : decide (0 < j) = true := decide_eq_true hj0
              have k2 : (0 : Int) < (j : Int) := by omega
              have k3 : (cls x != 0) = false := by simp [hx0]
              have k4 : decide (cls x = 0) = true := decide_eq_true hx0
              clear hx0
              go_wp2
              go_region_held3 (fun w' => w'.cell? ⟨b6, q6 + j, none⟩ = some (.slice (some ⟨bu, qu, none⟩) R.length cu) ∧ w'.cell? ⟨bu, qu, none⟩ = some (.int .i32 x))
                (first | go_keep | exact ⟨(hbB.cell (Nat.lt_of_lt_of_le hb6 hsA)).trans (And.left (by assumption)), (hbB.cell (Nat.lt_of_lt_of_le hbu hsA)).trans (And.right (by assumption))⟩ | (refine ⟨?_, ?_⟩ <;> (rw [hbA.cell (by simp; omega)]; assumption)))
                (first
                  | (go_at_call 11; refine (small_any _).mono ?_; rintro e w' ⟨rfl, rfl⟩)
                  | (go_at_call 30; refine (class_any _ _).mono ?_; rintro e wA ⟨rfl, hbA⟩; have hsA : wr.heap.size ≤ wA.heap.size := (by have h1 := hbA.size; simpa using h1))
                  | (go_at_call 20; refine (of_rd _ R O 0 _ (HRU.out.drew'.mono hbA rfl) (by have := HRL.out; omega) HO.out).mono ?_; rintro e wB ⟨pB, qB, rfl, hoB, hbB⟩))
              go_wp2
              have hA0 : Below wr.heap.size wr wA := (Below.refl _ _).drew.trans (hbA.mono (by simp))
              have hAB := hA0.trans (hbB.mono hA0.size)
              go_roundw
              case rel => exact ⟨j + 1, by omega, by go_num, hbl.trans (hAB.mono hbl.size)⟩
              case measure => simp [intOf]; omega
            · obtain rfl : j = 0 := by omega
              clear HBS
              rw [Nat.add_zero] at c6r
              have k1 : decide (0 < 0) = false := rfl
              go_wp2
              refine wp_region_held_drew (S := fun w' => w'.cell? ⟨b6, q6, none⟩ = some (.slice (some ⟨bu, qu, none⟩) R.length cu) ∧ w'.cell? ⟨bu, qu, none⟩ = some (.int .i32 x)) (by kernel_rfl) ⟨c6r, cur⟩ (fun hHeld => ?_)
              refine wpAnyH_takeD (i := 0) (d := some 110) (v := ?_) rfl rfl (by kernel_rfl) (by kernel_rfl) (by kernel_rfl) (fun _ _ _ h => h) (Or.inl ⟨by rfl, ?_⟩) (by assumption) ?_
              rotate_left
              · intro w hSw; (try dsimp only at hSw); go_simp; all_goals (with_reducible rfl)
              simp only [Act.put, List.setIfInBounds_toArray, List.set_cons_zero, List.set_cons_succ]
              refine wpAnyH_takeD (i := 1) (d := some 111) (v := ?_) rfl rfl (by kernel_rfl) (by kernel_rfl) (by kernel_rfl) (fun _ _ _ h => h) (Or.inl ⟨by rfl, ?_⟩) (by assumption) ?_
              rotate_left
              · intro w hSw; (try dsimp only at hSw); go_simp; all_goals (with_reducible rfl)
              simp only [Act.put, List.setIfInBounds_toArray, List.set_cons_zero, List.set_cons_succ]
              refine wpAnyH_takeD (i := 2) (d := some 112) (v := ?_) rfl rfl (by kernel_rfl) (by kernel_rfl) (by kernel_rfl) (fun _ _ _ h => h) (Or.inl ⟨by rfl, ?_⟩) (by assumption) ?_
              rotate_left
              · intro w hSw; (try dsimp only at hSw); go_simp; all_goals (with_reducible rfl)
              simp only [Act.put, List.setIfInBounds_toArray, List.set_cons_zero, List.set_cons_succ]
              refine wpAnyH_takeD (i := 3) (d := some 113) (v := ?_) rfl rfl (by kernel_rfl) (by kernel_rfl) (by kernel_rfl) (fun _ _ _ h => h) (Or.inl ⟨by rfl, ?_⟩) (by assumption) ?_
              rotate_left
              · intro w hSw; (try dsimp only at hSw); go_simp; all_goals (with_reducible rfl)
              simp only [Act.put, List.setIfInBounds_toArray, List.set_cons_zero, List.set_cons_succ]
              refine wpAnyH_takeD (i := 4) (d := some 114) (v := ?_) rfl rfl (by kernel_rfl) (by kernel_rfl) (by kernel_rfl) (fun _ _ _ h => h) (Or.inl ⟨by rfl, ?_⟩) (by assumption) ?_
              rotate_left
              · intro w hSw; (try dsimp only at hSw); go_simp; all_goals (with_reducible rfl)
              simp only [Act.put, List.setIfInBounds_toArray, List.set_cons_zero, List.set_cons_succ]
              refine wpAnyH_takeD (i := 5) (d := some 115) (v := ?_) rfl rfl (by kernel_rfl) (by kernel_rfl) (by kernel_rfl) (fun _ _ _ h => h) (Or.inl ⟨by rfl, ?_⟩) (by assumption) ?_
              rotate_left
              · intro w hSw; (try dsimp only at hSw); go_simp; all_goals (with_reducible rfl)
              simp only [Act.put, List.setIfInBounds_toArray, List.set_cons_zero, List.set_cons_succ]
              refine wpAnyH_takeD (i := 6) (d := some 116) (v := ?_) rfl rfl (by kernel_rfl) (by kernel_rfl) (by kernel_rfl) (fun _ _ _ h => h) (Or.inl ⟨by rfl, ?_⟩) (by assumption) ?_
              rotate_left
              · intro w hSw; (try dsimp only at hSw); go_simp; all_goals (with_reducible rfl)
              simp only [Act.put, List.setIfInBounds_toArray, List.set_cons_zero, List.set_cons_succ]
              refine wpAnyH_takeD (i := 7) (d := some 117) (v := ?_) rfl rfl (by kernel_rfl) (by kernel_rfl) (by kernel_rfl) (fun _ _ _ h => h) (Or.inl ⟨by rfl, ?_⟩) (by assumption) ?_
              rotate_left
              · intro w hSw; (try dsimp only at hSw); go_simp; all_goals (with_reducible rfl)
              simp only [Act.put, List.setIfInBounds_toArray, List.set_cons_zero, List.set_cons_succ]
              refine wpAnyH_takeD (i := 8) (d := some 118) (v := ?_) rfl rfl (by kernel_rfl) (by kernel_rfl) (by kernel_rfl) (fun _ _ _ h => h) (Or.inl ⟨by rfl, ?_⟩) (by assumption) ?_
              rotate_left
              · intro w hSw; (try dsimp only at hSw); go_simp; all_goals (with_reducible rfl)
              simp only [Act.put, List.setIfInBounds_toArray, List.set_cons_zero, List.set_cons_succ]
              refine wpAnyH_takeD (i := 9) (d := some 119) (v := ?_) rfl rfl (by kernel_rfl) (by kernel_rfl) (by kernel_rfl) (fun _ _ _ h => h) (Or.inl ⟨by rfl, ?_⟩) (by assumption) ?_
              rotate_left
              · intro w hSw; (try dsimp only at hSw); go_simp; all_goals (with_reducible rfl)
              simp only [Act.put, List.setIfInBounds_toArray, List.set_cons_zero, List.set_cons_succ]
              refine wpAnyH_takeD (i := 10) (d := some 120) (v := undef) rfl rfl (by kernel_rfl) (by kernel_rfl) (by kernel_rfl) (fun _ _ _ h => h) (Or.inr ⟨by rfl, rfl⟩) (by assumption) ?_
              simp only [Act.put, List.setIfInBounds_toArray, List.set_cons_zero, List.set_cons_succ]
              refine wpAnyH_takeD (i := 11) (d := some 121) (v := undef) rfl rfl (by kernel_rfl) (by kernel_rfl) (by kernel_rfl) (fun _ _ _ h => h) (Or.inr ⟨by rfl, rfl⟩) (by assumption) ?_
              simp only [Act.put, List.setIfInBounds_toArray, List.set_cons_zero, List.set_cons_succ]
              refine wpAnyH_takeD (i := 12) (d := some 122) (v := undef) rfl rfl (by kernel_rfl) (by kernel_rfl) (by kernel_rfl) (fun _ _ _ h => h) (Or.inr ⟨by rfl, rfl⟩) (by assumption) ?_
              simp only [Act.put, List.setIfInBounds_toArray, List.set_cons_zero, List.set_cons_succ]
              refine wpAnyH_takeD (i := 13) (d := some 123) (v := undef) rfl rfl (by kernel_rfl) (by kernel_rfl) (by kernel_rfl) (fun _ _ _ h => h) (Or.inr ⟨by rfl, rfl⟩) (by assumption) ?_
              simp only [Act.put, List.setIfInBounds_toArray, List.set_cons_zero, List.set_cons_succ]
              refine wpAnyH_takeD (i := 14) (d := some 124) (v := undef) rfl rfl (by kernel_rfl) (by kernel_rfl) (by kernel_rfl) (fun _ _ _ h => h) (Or.inr ⟨by rfl, rfl⟩) (by assumption) ?_
              simp only [Act.put, List.setIfInBounds_toArray, List.set_cons_zero, List.set_cons_succ]
              refine wpAnyH_takeD (i := 15) (d := some 125) (v := undef) rfl rfl (by kernel_rfl) (by kernel_rfl) (by kernel_rfl) (fun _ _ _ h => h) (Or.inr ⟨by rfl, rfl⟩) (by assumption) ?_
              simp only [Act.put, List.setIfInBounds_toArray, List.set_cons_zero, List.set_cons_succ]
              refine wpAnyH_takeD (i := 16) (d := some 126) (v := undef) rfl rfl (by kernel_rfl) (by kernel_rfl) (by kernel_rfl) (fun _ _ _ h => h) (Or.inr ⟨by rfl, rfl⟩) (by assumption) ?_
              simp only [Act.put, List.setIfInBounds_toArray, List.set_cons_zero, List.set_cons_succ]
              refine wpAnyH_takeD (i := 17) (d := some 127) (v := undef) rfl rfl (by kernel_rfl) (by kernel_rfl) (by kernel_rfl) (fun _ _ _ h => h) (Or.inr ⟨by rfl, rfl⟩) (by assumption) ?_
              simp only [Act.put, List.setIfInBounds_toArray, List.set_cons_zero, List.set_cons_succ]
              refine wpAnyH_takeD (i := 18) (d := some 128) (v := undef) rfl rfl (by kernel_rfl) (by kernel_rfl) (by kernel_rfl) (fun _ _ _ h => h) (Or.inr ⟨by rfl, rfl⟩) (by assumption) ?_
              simp only [Act.put, List.setIfInBounds_toArray, List.set_cons_zero, List.set_cons_succ]
              refine wpAnyH_takeD (i := 19) (d := some 129) (v := undef) rfl rfl (by kernel_rfl) (by kernel_rfl) (by kernel_rfl) (fun _ _ _ h => h) (Or.inr ⟨by rfl, rfl⟩) (by assumption) ?_
              simp only [Act.put, List.setIfInBounds_toArray, List.set_cons_zero, List.set_cons_succ]
              refine wpAnyH_takeD (i := 20) (d := some 130) (v := undef) rfl rfl (by kernel_rfl) (by kernel_rfl) (by kernel_rfl) (fun _ _ _ h => h) (Or.inr ⟨by rfl, rfl⟩) (by assumption) ?_
              simp only [Act.put, List.setIfInBounds_toArray, List.set_cons_zero, List.set_cons_succ]
              refine wpAnyH_takeD (i := 21) (d := some 131) (v := undef) rfl rfl (by kernel_rfl) (by kernel_rfl) (by kernel_rfl) (fun _ _ _ h => h) (Or.inr ⟨by rfl, rfl⟩) (by assumption) ?_
              simp only [Act.put, List.setIfInBounds_toArray, List.set_cons_zero, List.set_cons_succ]
              refine wpAnyH_takeD (i := 22) (d := some 132) (v := ?_) rfl rfl (by kernel_rfl) (by kernel_rfl) (by kernel_rfl) (fun _ _ _ h => h) (Or.inl ⟨by rfl, ?_⟩) (by assumption) ?_
              rotate_left
              · intro w hSw; (try dsimp only at hSw); go_simp; all_goals (with_reducible rfl)
              simp only [Act.put, List.setIfInBounds_toArray, List.set_cons_zero, List.set_cons_succ]
              refine wpAnyH_takeD (i := 23) (d := some 133) (v := ?_) rfl rfl (by kernel_rfl) (by kernel_rfl) (by kernel_rfl) (fun _ _ _ h => h) (Or.inl ⟨by rfl, ?_⟩) (by assumption) ?_
              rotate_left
              · intro w hSw; (try dsimp only at hSw); go_simp; all_goals (with_reducible rfl)
              simp only [Act.put, List.setIfInBounds_toArray, List.set_cons_zero, List.set_cons_succ]
              refine wpAnyH_takeD (i := 24) (d := some 134) (v := ?_) rfl rfl (by kernel_rfl) (by kernel_rfl) (by kernel_rfl) (fun _ _ _ h => h) (Or.inl ⟨by rfl, ?_⟩) (by assumption) ?_
              rotate_left
              · intro w hSw; (try dsimp only at hSw); go_simp; all_goals (with_reducible rfl)
              simp only [Act.put, List.setIfInBounds_toArray, List.set_cons_zero, List.set_cons_succ]
              refine wpAnyH_takeD (i := 25) (d := some 135) (v := ?_) rfl rfl (by kernel_rfl) (by kernel_rfl) (by kernel_rfl) (fun _ _ _ h => h) (Or.inl ⟨by rfl, ?_⟩) (by assumption) ?_
              rotate_left
              · intro w hSw; (try dsimp only at hSw); go_simp; all_goals (with_reducible rfl)
              simp only [Act.put, List.setIfInBounds_toArray, List.set_cons_zero, List.set_cons_succ]
              refine wpAnyH_takeD (i := 26) (d := some 136) (v := ?_) rfl rfl (by kernel_rfl) (by kernel_rfl) (by kernel_rfl) (fun _ _ _ h => h) (Or.inl ⟨by rfl, ?_⟩) (by assumption) ?_
              rotate_left
              · intro w hSw; (try dsimp only at hSw); go_simp; all_goals (with_reducible rfl)
              simp only [Act.put, List.setIfInBounds_toArray, List.set_cons_zero, List.set_cons_succ]
              refine wpAnyH_takeD (i := 27) (d := some 137) (v := ?_) rfl rfl (by kernel_rfl) (by kernel_rfl) (by kernel_rfl) (fun _ _ _ h => h) (Or.inl ⟨by rfl, ?_⟩) (by assumption) ?_
              rotate_left
              · intro w hSw; (try dsimp only at hSw); go_simp; all_goals (with_reducible rfl)
              simp only [Act.put, List.setIfInBounds_toArray, List.set_cons_zero, List.set_cons_succ]
              refine wpAnyH_takeD (i := 28) (d := some 138) (v := ?_) rfl rfl (by kernel_rfl) (by kernel_rfl) (by kernel_rfl) (fun _ _ _ h => h) (Or.inl ⟨by rfl, ?_⟩) (by assumption) ?_
              rotate_left
              · intro w hSw; (try dsimp only at hSw); go_simp; all_goals (with_reducible rfl)
              simp only [Act.put, List.setIfInBounds_toArray, List.set_cons_zero, List.set_cons_succ]
              refine wpAnyH_ready (rs := [29]) (by kernel_rfl) (by simp) ?_
              refine AllReadyH.cons (o := _) rfl (fun K hK => ?_) AllReadyH.nil
              go_simp
              refine (of_rd _ R O 0 _ HRU.out.drew' (by have := HRL.out; omega) HO.out).mono ?_
              rintro e wB ⟨pB, qB, rfl, hoB, hbB⟩
              go_wp2_with fail
              refine hK.out _ _ ⟨(hbB.cell (by simpa using hb6)).trans c6r, (hbB.cell (by simpa using hbu)).trans cur⟩ (fun hHeld => ?_)
              clear hK K
              try simp only [Act.put, List.setIfInBounds_toArray, List.set_cons_zero, List.set_cons_succ]
              refine wpAnyH_takeD (i := 30) (d := some 140) (v := ?_) rfl rfl (by kernel_rfl) (by kernel_rfl) (by kernel_rfl) (fun _ _ _ h => h) (Or.inl ⟨by rfl, ?_⟩) (by assumption) ?_
              rotate_left
              · intro w hSw; (try dsimp only at hSw); go_simp; all_goals (with_reducible rfl)
              simp only [Act.put, List.setIfInBounds_toArray, List.set_cons_zero, List.set_cons_succ]
              refine wpAnyH_takeD (i := 31) (d := some 141) (v := ?_) rfl rfl (by kernel_rfl) (by kernel_rfl) (by kernel_rfl) (fun _ _ _ h => h) (Or.inl ⟨by rfl, ?_⟩) (by assumption) ?_
              rotate_left
              · intro w hSw; (try dsimp only at hSw); go_simp; all_goals (with_reducible rfl)
              simp only [Act.put, List.setIfInBounds_toArray, List.set_cons_zero, List.set_cons_succ]
              refine wpAnyH_takeD (i := 32) (d := some 142) (v := ?_) rfl rfl (by kernel_rfl) (by kernel_rfl) (by kernel_rfl) (fun _ _ _ h => h) (Or.inl ⟨by rfl, ?_⟩) (by assumption) ?_
              rotate_left
              · intro w hSw; (try dsimp only at hSw); go_simp; all_goals (with_reducible rfl)
              simp only [Act.put, List.setIfInBounds_toArray, List.set_cons_zero, List.set_cons_succ]
              refine wpAnyH_done (by kernel_rfl) ?_ _
              go_wp2
              have hAB : Below wr.heap.size wr wB := (Below.refl _ _).drew.trans (hbB.mono (by simp))
              go_roundw
              case rel => exact ⟨1, by omega, by go_num, hbl.trans (hAB.mono hbl.size)⟩
              case measure => simp [intOf]; omega
          · have hjM : ¬ (j : Int) < (M : Int) := by omega
            have hMM : ((M : Int) == (M : Int)) = true := by simp
            go_wp2_with fail
            refine (awake_any _).mono ?_
            rintro e w14 ⟨rfl, hb14⟩
            go_wp2
            go_ret
            exact ⟨rfl, hbr.trans (hb14.mono hbr.size)⟩

end Go.Proofs.Ytmipppnioanjeaa
