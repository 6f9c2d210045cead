/-
  Contracts of the document's answer for layer 14: Ahead.
-/
import Derived.Test.YtmipppnioanjeaaMkQ
import Derived.Deep.CutBlock
import Derived.Deep.DeepCutAuto
namespace Go.Proofs.Ytmipppnioanjeaa
open Go.RowKit Pl14

theorem rd_nil' (k : IntKind) (w : World) (a : Addr) (c : Nat) (hmax : c ≤ 9223372036854775807) : Rd k w (.slice (some a) 0 c) [] :=
  ⟨some a, c, rfl, Nat.zero_le _, hmax, (fun h => by cases h), .inl rfl⟩

set_option maxRecDepth 100000 in
set_option maxHeartbeats 4000000 in
theorem refAhead_any (vl : Value) (xs : List Int) (w : World) (hl : Rd .i32 w vl xs) (hsz : xs.length ≤ 1000000) :
    Calls Try.prog 14 #[vl] w fun e w' => ∃ out, e = .returned (.tuple #[out, .int .i64 (heldL xs.reverse).length]) ∧ Own 21 .i32 w.heap.size w' out (Pl14.ahead xs) ∧ Below w.heap.size w w' := by
  obtain ⟨a, ca, rfl, ha1, ha2, _, ha3⟩ := hl
  have HA := Lib.hid ha3; clear ha3
  have hcell : ∀ wr, Below w.heap.size w wr → ∀ k, k < xs.length → ∃ b o, a = some ⟨b, o, none⟩ ∧ wr.cell? ⟨b, o + k, none⟩ = some (.int .i32 (xs.getD k 0)) := by
    intro wr hb k hk
    rcases HA.out with h | ⟨b, o, h, hc⟩
    · rw [h] at hk; simp at hk
    · exact ⟨b, o, h, by rw [hb.cell (cell_lt (hc k hk))]; exact hc k hk⟩
  have HC := Lib.hid hcell; clear hcell
  go_enter Try.func14, Try.ntmps14
  go_upto_block 0 with fail
  go_cut [5] (fun z wx => ∃ (n : Nat), n ≤ xs.length ∧ z = .int .i64 n ∧ (∀ j, j < n → cls (xs.getD j 0) ≠ 0) ∧ (n = xs.length ∨ cls (xs.getD n 0) = 0) ∧ Below w.heap.size w wx)
  case first =>
    go_wp2
    go_loopw [5] (fun z wx => ∃ (n : Nat), n ≤ xs.length ∧ z = .int .i64 n ∧ (∀ j, j < n → cls (xs.getD j 0) ≠ 0) ∧ Below w.heap.size w wx) (fun z _ => xs.length - (intOf z).toNat)
    case atStart => exact ⟨0, Nat.zero_le _, rfl, fun j h1 => by omega, Below.refl _ _⟩
    case round =>
      obtain ⟨n, hn, rfl, hm, hbx⟩ := hrel
      have HM := Lib.hid hm; clear hm
      by_cases hlt : n < xs.length
      · obtain ⟨b1, o1, rfl, c1⟩ := HC.out wr hbx n hlt
        obtain ⟨x, hx⟩ : ∃ x, xs.getD n 0 = x := ⟨_, rfl⟩
        rw [hx] at c1
        have HX := Lib.hid hx; clear hx
        by_cases hx0 : cls x = 0
        · have hd : decide (cls x ≠ 0) = false := by simp [hx0]
          have HX0 := Lib.hid hx0; clear hx0
          go_wp2_with fail
          refine (mark_any _ _).mono ?_
          rintro e w5 ⟨rfl, hb5⟩
          rw [hd]
          go_wp2
          go_meet
          exact ⟨n, hn, rfl, HM.out, .inr (by rw [HX.out]; exact HX0.out), hbx.trans (hb5.mono hbx.size)⟩
        · have hd : decide (cls x ≠ 0) = true := by simp [hx0]
          go_wp2_with fail
          refine (mark_any _ _).mono ?_
          rintro e w5 ⟨rfl, hb5⟩
          rw [hd]
          go_wp2
          go_roundw
          case rel =>
            refine ⟨n + 1, by omega, by go_num, ?_, hbx.trans (hb5.mono hbx.size)⟩
            intro j h1
            by_cases e : j = n
            · subst e; rw [HX.out]; exact hx0
            · exact HM.out j (by omega)
          case measure => simp [intOf]; omega
      · go_wp2
        go_meet
        exact ⟨n, hn, rfl, HM.out, .inl (by omega), hbx⟩
  case rest =>
    obtain ⟨n, hn, rfl, hm, hstop, hb0⟩ := hcut
    have HM := Lib.hid hm; clear hm
    have HST := Lib.hid hstop; clear hstop
    have HL := Lib.hid (heldL_reverse_at xs n hn HM.out HST.out)
    have h00 : Pl14.ahead (xs.take n) = [] := ahead_take_marks xs n hn HM.out
    have H00 := Lib.hid h00; clear h00
    go_wp2
    go_loopw [4, 6, 7] (fun v y _ wr => ∃ (i e : Nat), n ≤ i ∧ i ≤ e ∧ e ≤ xs.length ∧ y = .int .i64 i ∧ (∀ j, i ≤ j → j < e → cls (xs.getD j 0) ≠ 0) ∧ (e = xs.length ∨ cls (xs.getD e 0) = 0) ∧ Own 21 .i32 w.heap.size wr v (Pl14.ahead (xs.take e)) ∧ Below w.heap.size w wr)
      (fun _ y _ _ => xs.length - (intOf y).toNat)
    case atStart => exact ⟨n, n, Nat.le_refl _, Nat.le_refl _, hn, rfl, fun j h1 h2 => by omega, HST.out, by rw [H00.out]; exact Own.nil _ _ _ _, hb0⟩
    case round =>
      obtain ⟨i, e, hni, hie, hel, rfl, hm, hst, hown, hbl⟩ := hrel
      have HM2 := Lib.hid hm; clear hm
      have HST2 := Lib.hid hst; clear hst
      have HO := Lib.hid hown; clear hown
      have hbs := hbl.size
      by_cases hlt : i < xs.length
      · obtain ⟨b1, o1, rfl, c1⟩ := HC.out wr hbl i hlt
        obtain ⟨x, hx⟩ : ∃ x, xs.getD i 0 = x := ⟨_, rfl⟩
        rw [hx] at c1
        have HX := Lib.hid hx; clear hx
        by_cases hx0 : cls x = 0
        · have hd : decide (cls x ≠ 0) = false := by simp [hx0]
          have hei : e = i := by
            by_cases h : i < e
            · exact absurd (by rw [HX.out]; exact hx0) (HM2.out i (Nat.le_refl _) h)
            · omega
          have HX0 := Lib.hid hx0; clear hx0
          go_wp2_with fail
          refine (mark_any _ _).mono ?_
          rintro e w1 ⟨rfl, hb1⟩
          rw [hd]
          have hO1 := HO.out.kept rfl hb1
          rw [hei] at hO1
          have HO1 := Lib.hid hO1; clear hO1 hei
          have hbl1 : Below w.heap.size w w1 := hbl.trans (hb1.mono hbs)
          clear HO HST2 HM2 hie hel c1
          go_upto_block 4 with fail
          go_cut [7] (fun z wx => ∃ (k : Nat), i + 1 ≤ k ∧ k ≤ xs.length ∧ z = .int .i64 k ∧ (∀ j, i + 1 ≤ j → j < k → cls (xs.getD j 0) ≠ 0) ∧ (k = xs.length ∨ cls (xs.getD k 0) = 0) ∧ Below w1.heap.size w1 wx)
          case first =>
            go_wp2
            go_loopw [7] (fun z wx => ∃ (k : Nat), i + 1 ≤ k ∧ k ≤ xs.length ∧ z = .int .i64 k ∧ (∀ j, i + 1 ≤ j → j < k → cls (xs.getD j 0) ≠ 0) ∧ Below w1.heap.size w1 wx) (fun z _ => xs.length - (intOf z).toNat)
            case atStart => exact ⟨i + 1, Nat.le_refl _, by omega, by go_num, fun j h1 h2 => by omega, Below.refl _ _⟩
            case round =>
              obtain ⟨k, hk1, hk2, rfl, hm, hbx⟩ := hrel
              have HM := Lib.hid hm; clear hm
              by_cases hlt2 : k < xs.length
              · obtain ⟨b3, o3, h3, c3⟩ := HC.out wr (hbl1.trans (hbx.mono hbl1.size)) k hlt2
                simp only [Option.some.injEq, Addr.mk.injEq, and_true] at h3
                obtain ⟨rfl, rfl⟩ := h3
                obtain ⟨y, hy⟩ : ∃ y, xs.getD k 0 = y := ⟨_, rfl⟩
                rw [hy] at c3
                have HY := Lib.hid hy; clear hy
                by_cases hy0 : cls y = 0
                · have hd3 : decide (cls y ≠ 0) = false := by simp [hy0]
                  have HY0 := Lib.hid hy0; clear hy0
                  go_wp2_with fail
                  refine (mark_any _ _).mono ?_
                  rintro e w5 ⟨rfl, hb5⟩
                  rw [hd3]
                  go_wp2
                  go_meet
                  exact ⟨k, hk1, hk2, rfl, HM.out, .inr (by rw [HY.out]; exact HY0.out), hbx.trans (hb5.mono hbx.size)⟩
                · have hd3 : decide (cls y ≠ 0) = true := by simp [hy0]
                  go_wp2_with fail
                  refine (mark_any _ _).mono ?_
                  rintro e w5 ⟨rfl, hb5⟩
                  rw [hd3]
                  go_wp2
                  go_roundw
                  case rel =>
                    refine ⟨k + 1, by omega, by omega, by go_num, ?_, hbx.trans (hb5.mono hbx.size)⟩
                    intro j h1 h2
                    by_cases e : j = k
                    · subst e; rw [HY.out]; exact hy0
                    · exact HM.out j h1 (by omega)
                  case measure => simp [intOf]; omega
              · go_wp2
                go_meet
                exact ⟨k, hk1, hk2, rfl, HM.out, .inl (by omega), hbx⟩
          case rest =>
            obtain ⟨k, hk1, hk2, rfl, hm, hst, hbx⟩ := hcut
            have HM3 := Lib.hid hm; clear hm
            have HST3 := Lib.hid hst; clear hst
            have HO3 := Lib.hid (HO1.out.kept rfl hbx)
            have hbl3 : Below w.heap.size w wc := hbl1.trans (hbx.mono hbl1.size)
            have HT := Lib.hid (ahead_take_base xs i k hlt (by rw [HX.out]; exact HX0.out) hk1 hk2 HM3.out)
            rw [HX.out] at HT
            clear HO1 hbl1 hb1 hbx
            by_cases hca : i + 1 = ca
            · have hk : k = i + 1 := by omega
              have hrd : Rd .i32 wc (.slice (some ⟨b1, o1, none⟩) 0 0) ((xs.take k).drop (i + 1)) := by
                have : (xs.take k).drop (i + 1) = [] := List.drop_eq_nil_of_le (by simp; omega)
                rw [this]; exact rd_nil' _ _ _ _ (by omega)
              have HRD := Lib.hid hrd; clear hrd
              obtain rfl : i + 1 = k := hk.symm
              obtain rfl : i + 1 = ca := hca
              have hlen1 : (Pl14.ahead (xs.take i)).length ≤ i := by have := ahead_length (xs.take i); simp at this; omega
              have HLE := Lib.hid hlen1
              have hlen2 : ((xs.take (i + 1)).drop (i + 1)).length ≤ i + 1 := by simp
              have hsw := hbl3.size
              have tok1 : True := trivial
              go_wp2_with (first
                | (at_builtin; have _t := tok1; refine wpList_appendS rune rfl _ _ rfl w.heap.size _ _ HO3.out rfl _ _ HRD.out rfl (by omega) (by omega) hsw ?_; intro v3 w3 hown3 hg3 _; clear tok1 _t; have hbl4 : Below w.heap.size w w3 := below_append' hbl3 hsw hg3 HO3.out.lt; obtain ⟨b5, o5, h5, c5⟩ := HC.out w3 hbl4 i hlt; simp only [Option.some.injEq, Addr.mk.injEq, and_true] at h5; obtain ⟨rfl, rfl⟩ := h5; rw [HX.out] at c5; have hs4 := hbl4.size; have hlen5 : (Pl14.ahead (xs.take i) ++ (xs.take (i + 1)).drop (i + 1)).length ≤ 2000000 := (by rw [List.length_append]; omega))
                | (at_builtin; refine wpList_append1 rune rfl _ _ rfl w.heap.size _ _ hown3 rfl x _ rfl (by omega) (by omega) hs4 ?_; intro v4 w4 hown4 hg4 _))
              go_wp2
              go_roundw
              case rel => exact ⟨i + 1, i + 1, by omega, hk1, hk2, by go_num, HM3.out, HST3.out, by rw [HT.out]; exact hown4, below_append hbl4 hs4 hg4 hown3.lt⟩
              case measure => simp [intOf]; omega
            · have hrd := rd_sub (c := ca - (i + 1)) (fun j hj => by obtain ⟨b3, o3, h3, c3⟩ := HC.out wc hbl3 j hj; simp only [Option.some.injEq, Addr.mk.injEq, and_true] at h3; obtain ⟨rfl, rfl⟩ := h3; exact c3) hk1 hk2 (by omega) (by omega)
              have HRD := Lib.hid hrd; clear hrd
              have hca' : ¬ ca = i + 1 := fun h => hca h.symm
              clear hca
              have hlen1 : (Pl14.ahead (xs.take i)).length ≤ i := by have := ahead_length (xs.take i); simp at this; omega
              have HLE := Lib.hid hlen1
              have hlen2 : ((xs.take k).drop (i + 1)).length ≤ k := by simp; omega
              have hsw := hbl3.size
              have tok1 : True := trivial
              go_wp2_with (first
                | (at_builtin; have _t := tok1; refine wpList_appendS rune rfl _ _ rfl w.heap.size _ _ HO3.out rfl _ _ HRD.out rfl (by omega) (by omega) hsw ?_; intro v3 w3 hown3 hg3 _; clear tok1 _t; have hbl4 : Below w.heap.size w w3 := below_append' hbl3 hsw hg3 HO3.out.lt; obtain ⟨b5, o5, h5, c5⟩ := HC.out w3 hbl4 i hlt; simp only [Option.some.injEq, Addr.mk.injEq, and_true] at h5; obtain ⟨rfl, rfl⟩ := h5; rw [HX.out] at c5; have hs4 := hbl4.size; have hlen5 : (Pl14.ahead (xs.take i) ++ (xs.take k).drop (i + 1)).length ≤ 2000000 := (by rw [List.length_append]; omega))
                | (at_builtin; refine wpList_append1 rune rfl _ _ rfl w.heap.size _ _ hown3 rfl x _ rfl (by omega) (by omega) hs4 ?_; intro v4 w4 hown4 hg4 _))
              go_wp2
              go_roundw
              case rel => exact ⟨i + 1, k, by omega, hk1, hk2, by go_num, HM3.out, HST3.out, by rw [HT.out]; exact hown4, below_append hbl4 hs4 hg4 hown3.lt⟩
              case measure => simp [intOf]; omega
        · have hd : decide (cls x ≠ 0) = true := by simp [hx0]
          have hie2 : i < e := by
            by_cases h : i < e
            · exact h
            · have : e = i := by omega
              rcases HST2.out with h2 | h2
              · omega
              · rw [this, HX.out] at h2; exact absurd h2 hx0
          go_wp2_with fail
          refine (mark_any _ _).mono ?_
          rintro e w1 ⟨rfl, hb1⟩
          rw [hd]
          go_wp2
          go_roundw
          case rel => exact ⟨i + 1, _, by omega, by omega, hel, by go_num, fun j h1 h2 => HM2.out j (by omega) h2, HST2.out, HO.out.kept rfl hb1, hbl.trans (hb1.mono hbs)⟩
          case measure => simp [intOf]; omega
      · go_wp2
        go_ret2
        rw [HL.out]
        have hel2 : e = xs.length := by omega
        have hO := HO.out
        rw [hel2, List.take_length] at hO
        exact ⟨_, rfl, hO, hbl⟩

end Go.Proofs.Ytmipppnioanjeaa
