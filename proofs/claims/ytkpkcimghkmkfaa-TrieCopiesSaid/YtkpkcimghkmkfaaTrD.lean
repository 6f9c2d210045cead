/-
  Layer 6 (trie): Set, at whatever program that is this one.
-/
import Derived.Test.YtkpkcimghkmkfaaTrC
import Derived.Deep.RegionHeld3
import Derived.Deep.CutBlock
import Derived.Deep.DeepCutAuto
namespace Go.Proofs.Ytkpkcimghkmkfaa
open Go.RowKit

def setR (f : Nat → Int) (a t : Nat) (v : Int) : Nat → Int := fun r => if a ≤ r ∧ r ≤ t then v else f r

set_option maxRecDepth 100000 in
set_option maxHeartbeats 4000000 in
theorem set_ok (P : Program) (hP : Is P) (b m : Nat) (z : Int) (f : Nat → Int) (a t : Nat) (v : Int) (w : World) (ht : TabAt P w b m z f) (hat : a ≤ t) (htm : t < 1114112) :
    Calls P 12 #[.pointer (some ⟨b, 0, none⟩), .int .i32 a, .int .i32 t, .int .i64 v] w fun e w' =>
      e = .returned (.int .i64 0) ∧ TabAt P w' b m z (setR f a t v) ∧ Keep (fun j => j = m) w w' := by
  have hf := Try.func12; rw [← hP] at hf
  have t3 := Try.underlying3; rw [← hP] at t3
  have a3 := Try.isAgg3; rw [← hP] at a3
  have z3 := Try.sizeOf3; rw [← hP] at z3
  have v3 := Try.zeroValue3; rw [← hP] at v3
  have t4 := Try.underlying4; rw [← hP] at t4
  have r21 := Try.runUnderlying21; rw [← hP] at r21
  have t21 := Try.underlying21; rw [← hP] at t21
  have r23 := Try.runUnderlying23; rw [← hP] at r23
  have t23 := Try.underlying23; rw [← hP] at t23
  have t56 := Try.underlying56; rw [← hP] at t56
  have a56 := Try.isAgg56; rw [← hP] at a56
  have z56 := Try.sizeOf56; rw [← hP] at z56
  have r58 := Try.runUnderlying58; rw [← hP] at r58
  have t60 := Try.underlying60; rw [← hP] at t60
  have v60 := arr_zero; rw [← hP] at v60
  have i60 : (P.info? 60).map (·.size) = some 256 := by rw [hP]; kernel_rfl
  have c26 := Try.call26; rw [← hP] at c26
  have hpl := plain_any P hP b z
  have HPL := Lib.hid hpl; clear hpl
  have g1 : ¬ (a : Int) < 0 := by omega
  have g2 : ¬ (1114111 : Int) < (t : Int) := by omega
  have g3 : ¬ (t : Int) < (a : Int) := by omega
  have hb0 := ht.blk.cell 0
  have hb1 := ht.blk.cell 1
  simp at hb0 hb1
  have HT := Lib.hid ht; clear ht
  have i3 : ∃ i, P.info? 3 = some i := by rw [hP]; exact Option.isSome_iff_exists.1 (by kernel_rfl)
  have c3 : P.cellsOf 3 = 1 := by rw [hP]; kernel_rfl
  have e60 := Try.eqGuardType60; rw [← hP] at e60
  have hP0 := Lib.hid hP; clear hP
  go_enter hf, Try.ntmps12
  go_wp2_with fail
  refine (HPL.out w hb0).mono ?_
  rintro e w1 ⟨rfl, hbl1⟩
  have hbb1 : b < w1.heap.size := by have := cell_lt hb0; have := hbl1.size; omega
  go_wp2_with (refine wpList_store_arr rfl 60 _ _ rfl w1.heap.size _ _ rfl rfl (row_new w1 _ _) i60 ?_; intro w2 hrow2 hk2; obtain ⟨hk2, hs2⟩ := below_new hk2)
  obtain ⟨p, hp⟩ : ∃ p, w1.heap.size = p := ⟨_, rfl⟩
  rw [hp] at hrow2 hk2 hs2 hbb1 ⊢
  have hpw : w.heap.size ≤ p := by rw [← hp]; exact hbl1.size
  have hk12 : Below w.heap.size w w2 := hbl1.trans (hk2.mono hpw)
  have hT2 := Lib.hid (HT.out.keep (Keep.of_below (S := fun _ => False) hk12 rfl) (fun h => h) (fun h => h))
  have hmw := HT.out.ltm
  have hmb := HT.out.ne
  clear hbl1 hk2 hp
  have hE0 := fun (G : Nat → Int) (W : World) => run_equal_arr (P := P) t60 i3.choose_spec c3 t3 G (fun _ => z) W
  have HE := Lib.hid hE0; clear hE0
  go_loopw [10, 11, 12, 13] (fun s10 _ _ _ wr => ∃ x : Nat, a / 256 ≤ x ∧ x ≤ t / 256 + 1 ∧ s10 = .int .i32 x ∧ TabAt P wr b m z (fun r => if a ≤ r ∧ r ≤ t ∧ r < x * 256 then v else f r) ∧
      RowF .i64 wr p 0 256 (fun _ => z) ∧ Keep (fun j => j = m) w wr ∧ p < wr.heap.size) (fun s10 _ _ _ _ => t / 256 + 1 - (intOf s10).toNat)
  case atStart =>
    refine ⟨a / 256, Nat.le_refl _, by omega, by first | rfl | simp, hT2.out.congr fun r _ => ?_, hrow2, Keep.of_below hk12 rfl, hs2⟩
    rw [if_neg (by omega)]
  case round =>
    obtain ⟨x, hx1, hx2, rfl, hT, hrow, hkw, hps⟩ := hrel
    have hTc0 := hT.blk.cell 0
    have hTc1 := hT.blk.cell 1
    simp at hTc0 hTc1
    have HRP := Lib.hid hrow; clear hrow
    by_cases hxt : x ≤ t / 256
    · have hle : (x : Int) ≤ (t : Int) / 256 := by omega
      obtain ⟨dv, is, hlook, his⟩ := TabAt.look hP0.out hT (x := x) (by omega)
      have HTB := Lib.hid hT; clear hT
      have hbr := cell_lt hTc0
      have hmr := HTB.out.ltm
      go_upto_if 49 with (refine wpList_store_arr rfl 60 _ _ rfl wr.heap.size _ _ rfl rfl (row_new wr _ _) i60 ?_; intro w3 hrow3 hk3; obtain ⟨hk3, hs3⟩ := below_new hk3)
      obtain ⟨q, hq⟩ : ∃ q, wr.heap.size = q := ⟨_, rfl⟩
      rw [hq] at hrow3 hk3 hs3 hbr hmr hps ⊢
      have hpq : p ≠ q := by omega
      have hbq : b ≠ q := by omega
      have hmq : m ≠ q := by omega
      have HRP3 := Lib.hid (HRP.out.below hk3 hps)
      have HR3 := Lib.hid hrow3; clear hrow3
      go_cut [12] from 33 to 82 (fun _ wx => RowF .i64 wx q 0 256 (fun j => f (x * 256 + j)) ∧ Keep (fun j => j = q) w3 wx)
      case first =>
        rcases his with ⟨rfl, hdv⟩ | ⟨rfl, hz0⟩
        · go_wp2
          go_meet
          exact ⟨HR3.out.congr fun j hj => (hdv j hj).trans (if_neg (by omega)), Keep.refl _ _⟩
        · go_wp2_with (first
            | (refine wpList_load_arr rfl 60 _ rfl p _ _ rfl HRP3.out t60 i60 ?_)
            | (refine wpList_store_arr rfl 60 _ _ rfl q _ _ rfl rfl HR3.out i60 ?_; intro w4 hrow4 hk4))
          go_meet
          exact ⟨hrow4.congr fun j hj => ((if_neg (by omega)).symm.trans (hz0 j hj)).symm, hk4⟩
      case rest =>
        obtain ⟨hrowc, hkc⟩ := hcut
        have hTc := Lib.hid ((HTB.out.keep (Keep.of_below (S := fun _ => False) hk3 hq.symm) (fun h => h) (fun h => h)).keep hkc hbq hmq)
        have hRPc := Lib.hid (HRP3.out.keep hkc (by omega) hpq)
        have hqc : q < wc.heap.size := Nat.lt_of_lt_of_le hs3 hkc.size
        have hkwc : Keep (fun j => j = m) w wc := (hkw.trans (Keep.of_below (S := fun j => j = m) hk3 hq.symm) (fun _ _ h => h)).trans hkc (fun j hj h => by have := hkw.size; omega)
        have hRc := Lib.hid hrowc
        clear hrowc hkc HR3 HRP3 HTB HRP hlook his dv is hk3 hs3 hkw
        obtain ⟨lo, hlo⟩ : ∃ lo : Nat, lo = max a (x * 256) := ⟨_, rfl⟩
        have hlo1 : x * 256 ≤ lo ∧ a ≤ lo ∧ (lo = a ∨ lo = x * 256) := by omega
        have HLO := Lib.hid hlo1; clear hlo1 hlo
        obtain ⟨hi, hhi⟩ : ∃ hi : Nat, hi = min t (x * 256 + 255) := ⟨_, rfl⟩
        have hhi1 : hi ≤ t ∧ hi ≤ x * 256 + 255 ∧ (hi = t ∨ hi = x * 256 + 255) := by omega
        have HHI := Lib.hid hhi1; clear hhi1 hhi
        go_upto_region 12 with fail
        go_cut [13] from 33 to 82 (fun s13 wx => s13 = .int .i32 lo ∧ wx = wc)
        case first =>
          go_wp2
          all_goals
            go_meet
            refine ⟨?_, rfl⟩
            congr 1
            have := HLO.out
            omega
        case rest =>
          obtain ⟨rfl, rfl⟩ := hcut
          go_wp2
          go_loopw [13] (fun s13 wy => ∃ i : Nat, lo ≤ i ∧ i ≤ max lo (hi + 1) ∧ s13 = .int .i32 i ∧ RowF .i64 wy q 0 256 (fun j => if lo ≤ x * 256 + j ∧ x * 256 + j < i then v else f (x * 256 + j)) ∧ Keep (fun j => j = q) wc wy) (fun s13 _ => hi + 1 - (intOf s13).toNat)
          case atStart => exact ⟨lo, Nat.le_refl _, by omega, rfl, hRc.out.congr fun j hj => by rw [if_neg (by omega)], Keep.refl _ _⟩
          case round =>
            obtain ⟨i, hi1, hi2, rfl, hrowi, hki⟩ := hrel
            have HRI := Lib.hid hrowi; clear hrowi
            by_cases hin : i ≤ hi
            · have hq2 : i < x * 256 + 256 := by have := HHI.out; omega
              have hq1 : x * 256 ≤ i := by have := HLO.out; omega
              have hil : (i : Int) ≤ (t : Int) := by have := HHI.out; omega
              have hil2 : (i : Int) ≤ (x : Int) * 256 + 256 - 1 := by have := HHI.out; omega
              obtain ⟨r, hr⟩ : ∃ r : Nat, (i : Int) % 256 = (r : Int) := ⟨i % 256, by omega⟩
              have hr1 : r < 256 := by omega
              have hri : x * 256 + r = i := by omega
              have i1 : (0 : Int) ≤ (r : Int) := by omega
              have i2 : (r : Int) < 256 := by omega
              have hcr := (HRI.out r hr1).1
              have hfr := (HRI.out r hr1).2
              rw [Nat.zero_add] at hcr hfr
              go_wp2
              go_roundw
              case rel =>
                refine ⟨i + 1, by omega, by omega, by go_num, ?_, hki.trans (Keep.of_setCell _ _ _ _) (fun _ _ h => h)⟩
                have hset := HRI.out.set r v hr1
                rw [Nat.zero_add] at hset
                refine hset.congr fun j hj => ?_
                unfold setF
                by_cases e : j = r
                · rw [if_pos e, if_pos ⟨by omega, by omega⟩]
                · rw [if_neg e]
                  show (if lo ≤ x * 256 + j ∧ x * 256 + j < i then v else f (x * 256 + j)) = _
                  by_cases e2 : lo ≤ x * 256 + j ∧ x * 256 + j < i
                  · rw [if_pos e2, if_pos (by omega)]
                  · rw [if_neg e2, if_neg (by omega)]
              case measure => simp [intOf]; omega
            · obtain ⟨F, hF⟩ : ∃ F : Nat → Int, F = fun r => if a ≤ r ∧ r ≤ t ∧ r < (x + 1) * 256 then v else f r := ⟨_, rfl⟩
              have hg : RowF .i64 wr q 0 256 (fun j => F (x * 256 + j)) := HRI.out.congr fun j hj => by
                rw [hF]
                show (if lo ≤ x * 256 + j ∧ x * 256 + j < i then v else f (x * 256 + j)) = if a ≤ x * 256 + j ∧ x * 256 + j ≤ t ∧ x * 256 + j < (x + 1) * 256 then v else f (x * 256 + j)
                have h1 := HLO.out
                have h2 := HHI.out
                by_cases e : lo ≤ x * 256 + j ∧ x * 256 + j < i
                · rw [if_pos e, if_pos (by omega)]
                · rw [if_neg e, if_neg (by omega)]
              have hTr := hTc.out.keep hki hbq hmq
              have hRPr := Lib.hid (hRPc.out.keep hki (by omega) hpq)
              have hwr : Keep (fun j => j = m) w wr := hkwc.trans hki (fun j hj h => by have := hkwc.size; omega)
              have hbr1 := hTr.blk.cell 1
              simp at hbr1
              have HTR := Lib.hid hTr
              have HG := Lib.hid hg
              have hFe : ∀ r, r / 256 ≠ x → F r = if a ≤ r ∧ r ≤ t ∧ r < x * 256 then v else f r := by
                intro r hr
                rw [hF]
                show (if a ≤ r ∧ r ≤ t ∧ r < (x + 1) * 256 then v else f r) = _
                by_cases e : a ≤ r ∧ r ≤ t ∧ r < x * 256
                · rw [if_pos e, if_pos (by omega)]
                · rw [if_neg e, if_neg (by omega)]
              have HFE := Lib.hid hFe
              have HFD := Lib.hid hF
              have hrw := hki.size
              have hqc' : q < wr.drew.heap.size := Nat.lt_of_lt_of_le hqc hrw
              have hmq' : ¬ q = m := fun e => hmq e.symm
              have heq : ∀ W : World, (Op.equalIn 10000 60 (.agg (arrI fun j => F (x * 256 + j))) (.agg (arrI fun _ => z))).run P W = .ok (sameB (fun j => F (x * 256 + j)) fun _ => z) W := HE.out _
              obtain ⟨s, hs⟩ : ∃ s, sameB (fun j => F (x * 256 + j)) (fun _ => z) = s := ⟨_, rfl⟩
              rw [hs] at heq
              have HS := Lib.hid hs
              clear hg hTr hFe hF hs HRI hRc hTc hRPc hki hkwc
              have hor : ((t : Int) ≤ (x : Int) * 256 + 256 - 1 ∧ ¬ (i : Int) ≤ (t : Int)) ∨ ((¬ (t : Int) ≤ (x : Int) * 256 + 256 - 1) ∧ ¬ (i : Int) ≤ (x : Int) * 256 + 256 - 1) := by have := HHI.out; omega
              rcases hor with ⟨hmi, hni⟩ | ⟨hmi, hni⟩
              all_goals
                cases s with
                | true =>
                  have hz : ∀ j, j < 256 → F (x * 256 + j) = z := (sameB_iff _ _).1 HS.out
                  have HZ := Lib.hid hz; clear hz
                  go_wp2_with (first
                    | (refine wpList_load_arr rfl 60 _ rfl p _ _ rfl hRPr.out t60 i60 ?_)
                    | (refine wpList_load_arr rfl 60 _ rfl q _ _ rfl HG.out t60 i60 ?_)
                    | (at_delete; refine wpList_tab_del hP0.out rfl _ _ rfl HTR.out (x := x) (by omega) F rfl rfl HFE.out HZ.out ?_; intro w5 hT5 hk5))
                  go_roundw
                  case rel =>
                    refine ⟨x + 1, by omega, by omega, by go_num, ?_, hRPr.out.keep hk5 (by omega) (by omega), hwr.trans hk5 (fun _ _ h => h), ?_⟩
                    · rw [HFD.out] at hT5
                      exact hT5
                    · have := hk5.size; omega
                  case measure => simp [intOf]; omega
                | false =>
                  have hap : apartB z F x = true := by unfold apartB; rw [HS.out]; rfl
                  obtain ⟨w5, hput, hT5, hk5⟩ := TabAt.put hP0.out (w := wr.drew) HTR.out.drew (x := x) (by omega) F (fun j => F (x * 256 + j)) HFE.out (fun _ _ => rfl) hap
                  have hT5b := hT5.blk.cell 1
                  simp at hT5b
                  have hra := HG.out.rangeAt
                  have hra5 := (HG.out.drew.keep hk5 hqc' hmq').rangeAt
                  go_wp2_with (first
                    | (refine wpList_load_arr rfl 60 _ rfl p _ _ rfl hRPr.out t60 i60 ?_)
                    | (refine wpList_load_arr rfl 60 _ rfl q _ _ rfl HG.out t60 i60 ?_))
                  rw [show arrI (fun j => F (x * 256 + j)) = (cellsL fun j => F (x * 256 + j)).toArray from rfl] at hput
                  obtain rfl : P = Try.prog := hP0.out
                  have u60 := Try.underlying60
                  have l60 : (Try.prog.info? 60).map (·.size) = some (cellsL fun j => F (x * 256 + j)).length := by rw [cellsL_length]; exact i60
                  go_region_held3 (fun w' => w'.cell? ⟨b, 1, none⟩ = some (.map (some m)) ∧ w'.rangeAt q 0 (cellsL fun j => F (x * 256 + j))) (first | go_keep | exact ⟨by assumption, by assumption⟩) (fail)
                  go_wp2
                  go_roundw
                  case rel =>
                    refine ⟨x + 1, by omega, by omega, by go_num, ?_, hRPr.out.drew.keep hk5 (by omega) (by omega), hwr.trans (Keep.trans (Keep.of_drew (fun j => j = m) wr) hk5 (fun _ _ h => h)) (fun _ _ h => h), ?_⟩
                    · rw [HFD.out] at hT5
                      exact hT5
                    · have := hk5.size; omega
                  case measure => simp [intOf]; omega
    · have hnx : ¬ (x : Int) ≤ (t : Int) / 256 := by omega
      have HTE := Lib.hid hT; clear hT
      go_wp2
      go_ret
      refine ⟨rfl, HTE.out.congr fun r hr => ?_, hkw⟩
      show (if a ≤ r ∧ r ≤ t then v else f r) = if a ≤ r ∧ r ≤ t ∧ r < x * 256 then v else f r
      by_cases e : a ≤ r ∧ r ≤ t
      · rw [if_pos e, if_pos (by omega)]
      · rw [if_neg e, if_neg (by omega)]

end Go.Proofs.Ytkpkcimghkmkfaa
