/-
  Contract of the document's answer for layer 14: Sort.
-/
import Derived.Test.YtplobpelhcagpaaDoorMuP
import Derived.Test.YtplobpelhcagpaaDoorLibS
import Derived.Deep.CutBlock
import Derived.Deep.DeepCutAuto
namespace Go.Proofs.YtplobpelhcagpaaDoor
open Go.RowKit Pl14

structure BubAt (xs : List Int) (g n : Nat) (w1 wr : World) (D : Nat → Int) : Prop where
  row : RowF .i32 wr g 0 n D
  keep : KeepR g 0 n w1 wr
  proj : ∀ c, Pl14.proj c (listF D 0 n) = Pl14.proj c xs

set_option maxRecDepth 100000 in
set_option maxHeartbeats 4000000 in
theorem refSort_any (vl : Value) (xs : List Int) (w : World) (hl : Rd .i32 w vl xs) (hsz : xs.length ≤ 1000000) :
    Calls Tryd.prog 98 #[vl] w fun e w' => ∃ v, e = .returned v ∧ Own 21 .i32 w.heap.size w' v (msort xs) ∧ Below w.heap.size w w' := by
  have HL := Lib.hid hl; clear hl
  go_enter Tryd.func98, Tryd.ntmps98
  go_wp2_with (at_builtin; refine wpList_appendS rune rfl _ _ rfl w.heap.size _ _ (Own.nil _ _ _ _) rfl _ _ HL.out rfl (by simp; omega) (by simp; omega) (Nat.le_refl _) ?_; intro v1 w1 hown hg1 _; have hbw : Below w.heap.size w w1 := below_append' (Below.refl _ _) (Nat.le_refl _) hg1 (fun j hj => by simp [Value.ownBlock] at hj); clear hg1; simp only [List.nil_append] at hown)
  obtain ⟨ao, cap, rfl, hc1, hc2, hsh⟩ := hown.shape
  rcases hsh with ⟨rfl, rfl, rfl⟩ | ⟨g, rfl, hB, hg⟩
  · go_wp2
    refine wp_loop_rounds 1 ?_
    rw [rounds_succ]
    go_wp2
    go_ret
    exact ⟨_, rfl, Own.nil _ _ _ _, hbw⟩
  · obtain ⟨N, hN⟩ : ∃ N, xs.length = N := ⟨_, rfl⟩
    have HOWN := Lib.hid hown; clear hown
    have HROW0 := Lib.hid HOWN.out.row
    rw [hN] at hc1 hsz HROW0
    have HN := Lib.hid hN
    rw [hN]
    clear hN
    go_wp2
    go_loopw [4, 5, 6, 7, 8] (fun y _ _ _ _ wr => ∃ (m : Nat) (D : Nat → Int), m ≤ N ∧ y = .int .i64 m ∧ BubAt xs g N w1 wr D ∧ FinB N m D) (fun y _ _ _ _ _ => N - (intOf y).toNat)
    case atStart => exact ⟨0, _, Nat.zero_le _, rfl, ⟨HROW0.out, KeepR.refl _ _ _ _, fun c => by have := HN.out; subst this; rw [listF_getD]⟩, FinB.zero _ _⟩
    case round =>
      obtain ⟨m, D, hm, rfl, hb, hf⟩ := hrel
      have HB := Lib.hid hb; clear hb
      have HF := Lib.hid hf; clear hf
      have hgw : g < wr.heap.size := by have := HB.out.keep.size; omega
      by_cases hlt : m < N
      · obtain ⟨wo, rfl⟩ : ∃ wo : World, wo = wr := ⟨_, rfl⟩
        go_wp2
        go_loopw [5, 6, 7, 8] (fun y _ _ _ wr => ∃ (i : Nat) (E : Nat → Int), 1 ≤ i ∧ i ≤ N ∧ y = .int .i64 i ∧ BubAt xs g N w1 wr E ∧ PassB N m i E) (fun y _ _ _ _ => N - (intOf y).toNat)
        case atStart => exact ⟨1, D, Nat.le_refl _, by omega, rfl, HB.out, PassB.start HF.out⟩
        case round =>
          clear HB HF hgw
          obtain ⟨i, E, hi1, hiN, rfl, hb, hp⟩ := hrel
          have HB := Lib.hid hb; clear hb
          have HP := Lib.hid hp; clear hp
          have hgw : g < wr.heap.size := by have := HB.out.keep.size; omega
          by_cases hlt2 : i < N
          · obtain ⟨q, hq⟩ : ∃ q : Nat, IntKind.i64.wrap ((i : Int) - 1) = (q : Int) := ⟨i - 1, by rw [IntWalk.i64_in _ (by omega)]; omega⟩
            have hq' : i = q + 1 := by rw [IntWalk.i64_in _ (by omega)] at hq; omega
            have i1 : (0 : Int) ≤ (i : Int) := by omega
            have i2 : (i : Int) < (N : Int) := by omega
            have i3 : (0 : Int) ≤ (q : Int) := by omega
            have i4 : (q : Int) < (N : Int) := by omega
            have HQ := Lib.hid hq'; clear hq'
            obtain ⟨ca, fa⟩ := HB.out.row q (by omega)
            obtain ⟨cb, fb⟩ := HB.out.row i (by omega)
            rw [Nat.zero_add] at ca cb
            obtain ⟨x, hx⟩ : ∃ x, E q = x := ⟨_, rfl⟩
            obtain ⟨y, hy⟩ : ∃ y, E i = y := ⟨_, rfl⟩
            rw [hx] at ca
            rw [hy] at cb
            have HX := Lib.hid hx; clear hx
            have HY := Lib.hid hy; clear hy
            go_wp2_with fail
            refine (class_any _ _).mono ?_
            rintro e w2 ⟨rfl, hb2⟩
            have cb2 : w2.cell? ⟨g, i, none⟩ = some (.int .i32 y) := by rw [hb2.cell hgw]; exact cb
            go_wp2_with fail
            refine (class_any _ _).mono ?_
            rintro e w3 ⟨rfl, hb3⟩
            have hk3 : KeepR g 0 N wr w3 := (KeepR.of_below hb2 rfl hgw).trans (KeepR.of_below hb3 rfl (by have := hb2.size; omega))
            have hr3 : RowF .i32 w3 g 0 N E := (HB.out.row.below hb2 hgw).below hb3 (by have := hb2.size; omega)
            have HK3 := Lib.hid hk3; clear hk3
            have HR3 := Lib.hid hr3; clear hr3
            clear ca cb cb2 fa fb hb2 hb3
            have p1 := cls_nonneg y
            by_cases hbad : 0 < cls y ∧ cls y < cls x
            · obtain ⟨hb1, hb2⟩ := hbad
              obtain ⟨ca, fa⟩ := HR3.out q (by omega)
              obtain ⟨cb, fb⟩ := HR3.out i (by omega)
              rw [Nat.zero_add] at ca cb fa fb
              rw [HX.out] at ca
              rw [HY.out] at cb
              have hqi : q ≠ i := by have := HQ.out; omega
              go_wp2
              go_roundw
              case rel =>
                have hs1 := (HR3.out.set i x (by omega)).set q y (by omega)
                have hs2 := (HK3.out.trans (KeepR.of_set w3 g 0 N i (.int .i32 x) (by omega))).trans (KeepR.of_set _ g 0 N q (.int .i32 y) (by omega))
                rw [Nat.zero_add, Nat.zero_add] at hs1 hs2
                have hiq := HQ.out
                have hbd : Bad (E q) (E (q + 1)) := by rw [← hiq, HX.out, HY.out]; unfold Bad; omega
                have hpp := HP.out
                rw [hiq] at hpp
                have hsw : ∀ p, setF (setF E i x) q y p = swN E q p := by
                  intro p
                  unfold setF swN
                  rw [← HX.out, ← HY.out, hiq]
                refine ⟨i + 1, swN E q, by omega, by omega, by go_num, ⟨hs1.congr (fun p _ => hsw p), HB.out.keep.trans hs2, fun c => ?_⟩, by rw [hiq]; exact hpp.swap (by omega) hbd⟩
                rw [proj_swN E q N (by omega) hbd c]; exact HB.out.proj c
              case measure => simp [intOf]; omega
            · have hnb : ¬ Bad x y := by unfold Bad; omega
              by_cases hb1 : 0 < cls y
              · have hb2 : ¬ cls y < cls x := fun h => hbad ⟨hb1, h⟩
                go_wp2
                go_roundw
                case rel =>
                  have hiq := HQ.out
                  have hpp := HP.out
                  rw [hiq] at hpp
                  refine ⟨i + 1, E, by omega, by omega, by go_num, ⟨HR3.out, HB.out.keep.trans HK3.out, HB.out.proj⟩, by rw [hiq]; exact hpp.keep (by rw [← hiq, HX.out, HY.out]; exact hnb)⟩
                case measure => simp [intOf]; omega
              · have hz : ¬ 0 < cls y := hb1
                go_wp2
                go_roundw
                case rel =>
                  have hiq := HQ.out
                  have hpp := HP.out
                  rw [hiq] at hpp
                  refine ⟨i + 1, E, by omega, by omega, by go_num, ⟨HR3.out, HB.out.keep.trans HK3.out, HB.out.proj⟩, by rw [hiq]; exact hpp.keep (by rw [← hiq, HX.out, HY.out]; exact hnb)⟩
                case measure => simp [intOf]; omega
          · go_wp2
            refine ⟨⟨m + 1, E, by omega, by go_num, HB.out, HP.out.done i (by omega)⟩, by simp [intOf]; omega⟩
      · go_wp2
        go_ret
        obtain rfl : N = m := by omega
        have hsrt : IsSort xs (listF D 0 N) := ⟨HF.out.sorted, fun c _ => HB.out.proj c⟩
        have hN := HN.out
        subst hN
        have hlen := msort_length xs
        refine ⟨_, rfl, (HOWN.out.rebuild HB.out.keep HB.out.row hlen ?_), hbw.trans (HB.out.keep.keep.below hbw.size (fun j hj => by subst hj; exact hB))⟩
        intro j hj
        rw [← hsrt.eq_msort]
        simp [listF, hj]

end Go.Proofs.YtplobpelhcagpaaDoor
