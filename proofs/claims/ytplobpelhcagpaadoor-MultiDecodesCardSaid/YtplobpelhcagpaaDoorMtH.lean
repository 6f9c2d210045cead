/-
  Multi: the walk of MultiDecodes.
-/
import Derived.Test.YtplobpelhcagpaaDoorMtG
import Derived.Test.YtplobpelhcagpaaDoorMtJ
namespace Go.Proofs.YtplobpelhcagpaaDoor
open Go.RowKit Go.Shelf Pl14

set_option maxRecDepth 100000 in
set_option maxHeartbeats 16000000 in
theorem decodes_walk (vl vp : Value) (rs : List MRow) (parts : List ByteArray) (how : Int) (w : World) (hl : RdM w vl rs) (hp : RdS w vp parts) (hn : parts.length ≤ 90000000000000000) (hT : TabsAt w) : Calls Tryd.prog 3 #[vl, vp, .int .i64 how] w fun e w' => e = .returned (.bool true) ∧ Below w.heap.size w w' := by
  have HL := Lib.hid hl; clear hl
  have HP := Lib.hid hp; clear hp
  have HT := Lib.hid hT; clear hT
  go_enter Tryd.func3, Tryd.ntmps3
  go_wp2_with fail
  refine (whole_any vp parts w HP.out hn).mono ?_
  rintro e w0 ⟨⟨s, ok, rfl, hwh⟩, hb0⟩
  have HWH := Lib.hid hwh; clear hwh
  have HB0 := Lib.hid hb0; clear hb0
  go_wp2_with fail
  refine (few_any vl rs w0 (HL.out.mono HB0.out rfl)).mono ?_
  rintro e w1 ⟨⟨b, rfl, hf⟩, hb1⟩
  have HF := Lib.hid hf; clear hf
  have HB1 := Lib.hid (HB0.out.trans (hb1.mono HB0.out.size)); clear hb1
  have HT1 := Lib.hid (HT.out.below HB1.out rfl)
  cases b with
  | false =>
    go_wp2_with (go_at_call 11; refine (awake_any _ HT1.out).mono ?_; rintro e w' ⟨rfl, hb⟩; replace hb := Lib.hid (HB1.out.trans (hb.mono HB1.out.size)))
    go_ret
    exact ⟨rfl, hb.out⟩
  | true =>
    have HF2 := Lib.hid (HF.out rfl); clear HF
    cases ok with
    | false =>
      go_wp2_with (go_at_call 11; refine (awake_any _ HT1.out).mono ?_; rintro e w' ⟨rfl, hb⟩; replace hb := Lib.hid (HB1.out.trans (hb.mono HB1.out.size)))
      go_ret
      exact ⟨rfl, hb.out⟩
    | true =>
      obtain ⟨hcat, hpo⟩ := HWH.out rfl
      have HCAT := Lib.hid hcat; clear hcat
      have HPO := Lib.hid hpo; clear hpo HWH
      go_wp2_with (go_at_call 13; refine (small_any _).mono ?_; rintro e w' ⟨rfl, rfl⟩)
      refine (charNew_any vl rs w1 (HL.out.mono HB1.out rfl) HT1.out (by have := HF2.out.1; omega) HF2.out.texts).mono ?_
      rintro e w2 ⟨p, at_, er, rfl, hor, hb2⟩
      have HB2 := Lib.hid (HB1.out.trans (hb2.mono HB1.out.size))
      have HT2 := Lib.hid (HT1.out.below hb2 rfl)
      clear hb2
      rcases hor with ⟨rfl, hok, cb, tm, hm, c0, c2, c5, c6, B, rfl, hcs, -⟩ | ⟨her, rfl, -⟩
      case inr =>
        have e0 : (er != 0) = true := by simpa using her
        clear her
        go_wp2_with (go_at_call 11; refine (awake_any _ HT2.out).mono ?_; rintro e w' ⟨rfl, hb⟩; replace hb := Lib.hid (HB2.out.trans (hb.mono HB2.out.size)))
        go_ret
        exact ⟨rfl, hb.out⟩
      have hlt := hcs.lt
      have HOK := Lib.hid hok; clear hok
      have HPS := Lib.hid (show textsLe (psOf rs) from HF2.out.le)
      have HC2 := Lib.hid (show ChLow w2 cb (psOf rs) w2.heap.size from ⟨tm, hm, c0, _, c2, c5, c6, B, hcs, hlt.1, hlt.2.1, hlt.2.2⟩)
      have HP2 := Lib.hid (HP.out.mono HB2.out rfl)
      have HL2 := Lib.hid (HL.out.mono HB2.out rfl)
      clear hcs hlt HT1 HB1 HB0 HL HP HT
      by_cases hh : HowOk how
      · have HH := Lib.hid hh
        unfold HowOk at hh
        have hh1 : ¬ how < 1 := by omega
        have hh2 : ¬ 3 < how := by omega
        clear hh
        go_wp2_with fail
        refine (decode_r cb how _ vp parts w2 HC2.out HP2.out HPS.out (by have := totB_le HPO.out; omega) HH.out).mono ?_
        rintro e w3 ⟨⟨s3, a3, cap3, rfl, hs3, hf3⟩, hb3⟩
        rw [decP_all, ← HCAT.out] at hs3 hf3 ⊢
        have HF3 := Lib.hid hf3
        have HS3 := Lib.hid hs3
        have HB3 := Lib.hid (HB2.out.trans (hb3.mono HB2.out.size))
        have HT3 := Lib.hid (HT2.out.below hb3 rfl)
        have HL3 := Lib.hid (HL2.out.mono hb3 rfl)
        have hsz : s.size ≤ 10000 := by rw [size_toList, HCAT.out, catB_len]; have := totB_le HPO.out; omega
        clear hs3 hf3 hb3 HB2 HT2 HL2 HC2 HP2
        obtain ⟨Y, hY⟩ : ∃ Y, allP (psOf rs) how s.data.toList 0 = Y := ⟨_, rfl⟩
        have hlen : Y.2.1.length ≤ 100000 := by
          have := (allP_len (psOf rs) how s.data.toList 0 HPS.out).2
          rw [hY, ← size_toList] at this
          omega
        rw [hY] at HF3 HS3 ⊢
        have HY := Lib.hid hY; clear hY
        obtain ⟨yo, yf, ye⟩ := Y
        simp only at HF3 HS3 hlen ⊢
        go_wp2_with fail
        refine (plain17_any vl rs w3 HL3.out (by have := HF2.out.1; omega) (RowsFrom.valid HOK.out) HF2.out.texts).mono ?_
        rintro e w4 ⟨⟨pv, pn, rfl, hpl⟩, hb4⟩
        have HPL := Lib.hid hpl.rd
        have HB4 := Lib.hid (HB3.out.trans (hb4.mono HB3.out.size))
        have HT4 := Lib.hid (HT3.out.below hb4 rfl)
        have HF4 := Lib.hid (show OwnF w2.heap.size w4 (.slice a3 yf.length cap3) yf from ownsRow_below HF3.out hb4 rfl)
        clear hpl hb4 HB3 HT3 HL3 HF3
        go_wp2_with fail
        refine (all_any pv rs how s w4 HPL.out HOK.out HPS.out hsz HH.out).mono ?_
        rw [HY.out]
        rintro e w5 ⟨⟨gv, rfl, hg⟩, hb5⟩
        simp only at hg ⊢
        have HG := Lib.hid hg.rd
        have HF5 := Lib.hid (OwnF.rd (show OwnF w2.heap.size w5 (.slice a3 yf.length cap3) yf from ownsRow_below HF4.out hb5 rfl))
        have HB5 := Lib.hid (HB4.out.trans (hb5.mono HB4.out.size))
        have HT5 := Lib.hid (HT4.out.below hb5 rfl)
        have hse : (⟨yo.toArray⟩ : ByteArray) = s3 := by apply bytes_eq; rw [HS3.out]
        rw [hse]
        clear hg hb5 HB4 HT4 HF4 HPL hse
        go_wp2_with fail
        refine (faults_any _ _ yf w5 HF5.out HG.out).mono ?_
        rintro e w6 ⟨rfl, hb6⟩
        have HB6 := Lib.hid (HB5.out.trans (hb6.mono HB5.out.size))
        have HT6 := Lib.hid (HT5.out.below hb6 rfl)
        clear hb6 HB5 HT5 HF5 HG
        go_wp2_with (go_at_call 11; refine (awake_any _ HT6.out).mono ?_; rintro e w' ⟨rfl, hb⟩; replace hb := Lib.hid (HB6.out.trans (hb.mono HB6.out.size)))
        go_ret
        exact ⟨rfl, hb.out⟩
      · have HH := Lib.hid hh
        go_wp2_with fail
        refine (decode_any cb how _ vp parts w2 HC2.out HP2.out HPS.out (by have := totB_le HPO.out; omega)).mono ?_
        rintro e w3 (⟨-, rfl, rfl⟩ | ⟨h, -⟩)
        case inr => exact absurd h HH.out
        by_cases h1 : how < 1
        · go_wp2_with (go_at_call 11; refine (awake_any _ HT2.out).mono ?_; rintro e w' ⟨rfl, hb⟩; replace hb := Lib.hid (HB2.out.trans (hb.mono HB2.out.size)))
          go_ret
          exact ⟨rfl, hb.out⟩
        · have h2 : 3 < how := by unfold HowOk at hh; omega
          go_wp2_with (go_at_call 11; refine (awake_any _ HT2.out).mono ?_; rintro e w' ⟨rfl, hb⟩; replace hb := Lib.hid (HB2.out.trans (hb.mono HB2.out.size)))
          go_ret
          exact ⟨rfl, hb.out⟩

end Go.Proofs.YtplobpelhcagpaaDoor
