/-
  Multi: the walk of MultiSteps.
-/
import Derived.Test.YtplobpelhcagpaaDoorMtG
import Derived.Test.YtplobpelhcagpaaDoorMtJ
import Derived.Test.YtplobpelhcagpaaDoorMtP
namespace Go.Proofs.YtplobpelhcagpaaDoor
open Go.RowKit Go.Shelf Pl14

theorem RdF.drop {w : World} {a : Option Addr} {n cap m : Nat} {fs : List (Int × Int)} (h : RdF w (.slice a n cap) fs) (hm : m ≤ n) : RdF w (sliced a m n cap 2) (fs.drop m) := by
  obtain ⟨a', cap', hv, h1, h2, h3⟩ := h
  cases hv
  refine ⟨if cap = m then a else a.map (·.add (m * 2)), cap - m, by rw [List.length_drop]; rfl, by rw [List.length_drop]; omega, by omega, fun j hj => ?_⟩
  rw [List.length_drop] at hj
  obtain ⟨g, o, ha, k1, k2⟩ := h3 (m + j) (by omega)
  subst ha
  have e : (fs.drop m).getD j (0, 0) = fs.getD (m + j) (0, 0) := by simp [List.getD_eq_getElem?_getD]
  rw [e]
  refine ⟨g, o + m * 2, ?_, by rw [show o + m * 2 + j * 2 = o + (m + j) * 2 by omega]; exact k1, by rw [show o + m * 2 + j * 2 + 1 = o + (m + j) * 2 + 1 by omega]; exact k2⟩
  rw [if_neg (by omega)]
  simp [Addr.add]

/-- what a step leaves held is an end of what was there -/
theorem stepP_suffix (ps : List CT) (how : Int) : ∀ (k : Nat) (h : Bytes) (at_ : Nat), h.length ≤ k → (stepP ps how h at_).held <:+ h := by
  intro k
  induction k with
  | zero =>
    intro h at_ hk
    obtain rfl : h = [] := by simpa using hk
    rw [stepP_nil]; exact List.suffix_refl _
  | succ k ih =>
    intro h at_ hk
    by_cases h0 : h = []
    · subst h0; rw [stepP_nil]; exact List.suffix_refl _
    have hpos : 0 < h.length := List.length_pos_iff.2 h0
    obtain ⟨n, t, er, hn⟩ : ∃ n t er, nextP ps h = (n, t, er) := ⟨_, _, _, rfl⟩
    rcases nextP_cases ps h hn with ⟨rfl, a, b, c⟩ | ⟨rfl, rfl, rfl⟩ | ⟨rfl, rfl, rfl⟩
    · have := ih (h.drop n) (at_ + n) (by rw [List.length_drop]; omega)
      rw [stepP_ok hn]
      exact List.IsSuffix.trans (by simpa [StepA.pre] using this) (List.drop_suffix _ _)
    · rw [stepP_more hn]; exact List.suffix_refl _
    · rw [stepP_bad h0 hn]
      by_cases h1 : how = 1
      · rw [if_pos h1]; exact List.nil_suffix
      · rw [if_neg h1]
        have := ih (h.drop 1) (at_ + 1) (by rw [List.length_drop]; omega)
        simp only [StepA.pre]
        exact List.IsSuffix.trans this (List.drop_suffix _ _)
theorem held_drop {ps : List CT} {how : Int} {h : Bytes} {x : StepA} (e : stepP ps how h 0 = x) (ht : x.at_ + x.held.length = h.length) : h.drop x.at_ = x.held := by
  have hs := stepP_suffix ps how h.length h 0 (Nat.le_refl _)
  rw [e, List.suffix_iff_eq_drop] at hs
  rw [hs]
  congr 1
  omega

/-- where one is in the loop -/
def StepSt (ps : List CT) (how : Int) (db cb : Nat) (parts : List ByteArray) (i : Nat) (s t : ByteArray) (m : Nat) (cl : Bool) (wr : World) : Prop :=
  (cl = false ∧ ∃ (held : ByteArray) (x : StepA), stepP ps how s.data.toList 0 = x ∧ x.er = 0 ∧ t.data.toList = x.out ∧ m = x.fs.length ∧ held.data.toList = x.held ∧ DecB wr db cb how held x.at_ false ∧ s.data.toList = catB (parts.take i)) ∨
  (cl = true ∧ ∃ (held : ByteArray) (at_ : Int), DecB wr db cb how held at_ true)

set_option maxRecDepth 100000 in
set_option maxHeartbeats 16000000 in
theorem steps_walk (vl vp : Value) (rs : List MRow) (parts : List ByteArray) (how : Int) (w : World) (hl : RdM w vl rs) (hp : RdS w vp parts) (hn : parts.length ≤ 90000000000000000) (hT : TabsAt w) : Calls Tryd.prog 8 #[vl, vp, .int .i64 how] w fun e w' => e = .returned (.bool true) ∧ Below w.heap.size w w' := by
  have HL := Lib.hid hl; clear hl
  have HP := Lib.hid hp
  have HT := Lib.hid hT; clear hT
  obtain ⟨pa, pcap, rfl, hp1, hp2, -, -⟩ := hp
  obtain ⟨NP, hNP⟩ : ∃ n, parts.length = n := ⟨_, rfl⟩
  rw [hNP] at hp1 HP hn ⊢
  have HNP := Lib.hid hNP; clear hNP
  go_enter Tryd.func8, Tryd.ntmps8
  go_wp2_with fail
  refine (whole_any _ parts w HP.out (by rw [HNP.out]; exact hn)).mono ?_
  rintro e w0 ⟨⟨s, ok, rfl, hwh⟩, hb0⟩
  have HWH := Lib.hid hwh; clear hwh
  have HB0 := Lib.hid hb0; clear hb0
  go_wp2_with fail
  refine (few_any vl rs w0 (HL.out.mono HB0.out rfl)).mono ?_
  rintro e w1 ⟨⟨b, rfl, hf⟩, hb1⟩
  have HF := Lib.hid hf; clear hf
  have HB1 := Lib.hid (HB0.out.trans (hb1.mono HB0.out.size)); clear hb1
  have HT1 := Lib.hid (HT.out.below HB1.out rfl)
  cases b with
  | false =>
    go_wp2_with (go_at_call 11; refine (awake_any _ HT1.out).mono ?_; rintro e w' ⟨rfl, hb⟩; replace hb := Lib.hid (HB1.out.trans (hb.mono HB1.out.size)))
    go_ret
    exact ⟨rfl, hb.out⟩
  | true =>
    have HF2 := Lib.hid (HF.out rfl); clear HF
    cases ok with
    | false =>
      go_wp2_with (go_at_call 11; refine (awake_any _ HT1.out).mono ?_; rintro e w' ⟨rfl, hb⟩; replace hb := Lib.hid (HB1.out.trans (hb.mono HB1.out.size)))
      go_ret
      exact ⟨rfl, hb.out⟩
    | true =>
      obtain ⟨hcat, hpo⟩ := HWH.out rfl
      have HCAT := Lib.hid hcat; clear hcat
      have HPO := Lib.hid hpo; clear hpo HWH
      by_cases hh1 : how < 1
      · go_wp2_with (go_at_call 11; refine (awake_any _ HT1.out).mono ?_; rintro e w' ⟨rfl, hb⟩; replace hb := Lib.hid (HB1.out.trans (hb.mono HB1.out.size)))
        go_ret
        exact ⟨rfl, hb.out⟩
      by_cases hh2 : 3 < how
      · go_wp2_with (go_at_call 11; refine (awake_any _ HT1.out).mono ?_; rintro e w' ⟨rfl, hb⟩; replace hb := Lib.hid (HB1.out.trans (hb.mono HB1.out.size)))
        go_ret
        exact ⟨rfl, hb.out⟩
      have HHOW := Lib.hid (show HowOk how from by unfold HowOk; omega)
      go_wp2_with (go_at_call 13; refine (small_any _).mono ?_; rintro e w' ⟨rfl, rfl⟩)
      refine (charNew_any vl rs w1 (HL.out.mono HB1.out rfl) HT1.out (by have := HF2.out.1; omega) HF2.out.texts).mono ?_
      rintro e w2 ⟨p, at_, er, rfl, hor, hb2⟩
      have HB2 := Lib.hid (HB1.out.trans (hb2.mono HB1.out.size))
      have HT2 := Lib.hid (HT1.out.below hb2 rfl)
      clear hb2
      rcases hor with ⟨rfl, hok, cb, tm, hm, c0, c2, c5, c6, B, rfl, hcs, howm⟩ | ⟨her, rfl, -⟩
      case inr =>
        have e0 : (er != 0) = true := by simpa using her
        clear her
        go_wp2_with (go_at_call 11; refine (awake_any _ HT2.out).mono ?_; rintro e w' ⟨rfl, hb⟩; replace hb := Lib.hid (HB2.out.trans (hb.mono HB2.out.size)))
        go_ret
        exact ⟨rfl, hb.out⟩
      have hlt := hcs.lt
      have HOK := Lib.hid hok
      have HPS := Lib.hid (show textsLe (psOf rs) from HF2.out.le)
      have HC2 := Lib.hid (show ChLow w2 cb (psOf rs) w2.heap.size from ⟨tm, hm, c0, _, c2, c5, c6, B, hcs, hlt.1, hlt.2.1, hlt.2.2⟩)
      have HM2 := Lib.hid (show w2.cell? ⟨cb, 2, none⟩ = some c2 from by have := hcs.blk.cell 2; simpa using this)
      have HR2 := Lib.hid howm.rd
      have HP2 := Lib.hid (HP.out.mono HB2.out rfl)
      have HL2 := Lib.hid (HL.out.mono HB2.out rfl)
      have HTOT := Lib.hid (show totB parts ≤ 2000 from totB_le HPO.out)
      clear hcs hlt hok howm HT1 HB1 HB0 HL HP HT
      go_wp2_with fail
      refine (plain17_any vl rs w2 HL2.out (by have := HF2.out.1; omega) (RowsFrom.valid HOK.out) HF2.out.texts).mono ?_
      rintro e w3 ⟨⟨pv, pn, rfl, hpl⟩, hb3⟩
      have HPL := Lib.hid hpl.rd
      have HB3 := Lib.hid (HB2.out.trans (hb3.mono HB2.out.size))
      have HT3 := Lib.hid (HT2.out.below hb3 rfl)
      have HC3 := Lib.hid ((HC2.out.below hb3).mono hb3.size)
      have HM3 := Lib.hid (show w3.cell? ⟨cb, 2, none⟩ = some c2 from (hb3.cell (p := ⟨cb, 2, none⟩) (cell_lt HM2.out)).trans HM2.out)
      have HR3 := Lib.hid (HR2.out.mono hb3 rfl)
      have HP3 := Lib.hid (HP2.out.mono hb3 rfl)
      clear hpl hb3 HB2 HT2 HC2 HM2 HR2 HP2 HL2
      go_wp2_with fail
      refine (new_any cb how w3).mono ?_
      rintro e w4 (⟨-, rfl, hd4, hb4, hz4⟩ | ⟨hno, -, -⟩)
      case inr => exact absurd HHOW.out hno
      obtain ⟨db, hdb⟩ : ∃ q, w3.heap.size = q := ⟨_, rfl⟩
      rw [hdb] at hd4 hb4 hz4 HC3
      try rw [hdb]
      have HDB := Lib.hid hdb
      have HD4 := Lib.hid hd4
      have HB4 := Lib.hid (show Below db w3 w4 from hb4)
      clear hd4 hb4 hdb
      go_wp2
      go_loopw [15, 16, 17, 18, 19] (fun s15 s16 s17 s18 s19 wr => ∃ (i : Nat) (s t : ByteArray) (m : Nat) (cl : Bool), s15 = .string s ∧ s16 = .string t ∧ s17 = .int .i64 m ∧ s18 = .bool cl ∧ s19 = .int .i64 i ∧ i ≤ NP ∧ StepSt (psOf rs) how db cb parts i s t m cl wr ∧ Below db w3 wr) (fun _ _ _ _ s19 _ => NP - (intOf s19).toNat)
      case atStart => exact ⟨0, ⟨#[]⟩, ⟨#[]⟩, 0, false, rfl, rfl, rfl, rfl, rfl, Nat.zero_le _, .inl ⟨rfl, ⟨#[]⟩, _, stepP_nil _ _ _, rfl, rfl, rfl, rfl, HD4.out, rfl⟩, HB4.out⟩
      case round =>
        obtain ⟨i, s2, t, m, cl, rfl, rfl, rfl, rfl, rfl, hi, hst, hbr⟩ := hrel
        have HBR := Lib.hid hbr; clear hbr
        have HCR := Lib.hid (show ChLow _ cb (psOf rs) db from HC3.out.below HBR.out)
        by_cases hlt : i < NP
        · have hip : i < parts.length := by rw [HNP.out]; exact hlt
          obtain ⟨b1, o1, rfl, c1⟩ := (HP3.out.mono HBR.out HDB.out.symm).at hip
          obtain ⟨p, hp⟩ : ∃ p, parts.getD i ByteArray.empty = p := ⟨_, rfl⟩
          rw [hp] at c1
          have HCAT2 := Lib.hid (show catB (parts.take (i + 1)) = catB (parts.take i) ++ p.data.toList from by rw [catB_take _ _ hip, hp])
          have hpz : p.size ≤ 100 := HPO.out.2 p (by rw [← hp]; exact getD_mem hip)
          clear hp hip
          rcases hst with ⟨rfl, held, x, hx, hxe, hxt, hxm, hxh, hdec, hcat⟩ | ⟨rfl, held, at2, hdec⟩
          · have hinv := stepR_inv (psOf rs) how HPS.out (s2.data.toList.length + 1) [] [] s2.data.toList 0 x hx
            have hs2 : s2.size = totB (parts.take i) := by rw [size_toList, hcat, catB_len]
            rw [← size_toList, ← hxh, ← size_toList, ← hxt, ← size_toList] at hinv
            simp only [List.length_nil, Nat.zero_add] at hinv
            have HIN := Lib.hid hinv; clear hinv
            have htl := totB_take_le parts i
            have htt := HTOT.out
            have hsz : s2.size ≤ 2000 := by omega
            have hhz : held.size ≤ 2000 := by have := HIN.out.2.1; omega
            have haz : x.at_ ≤ 2000 := by have := HIN.out.2.2.1; omega
            have hmz : m ≤ 2000 := by have := HIN.out.2.1; omega
            have htz : t.size ≤ 300000 * 2000 := by have := HIN.out.1; omega
            have HDEC := Lib.hid hdec
            have HST := Lib.hid (And.intro hx (And.intro hxe (And.intro hxt (And.intro hxm (And.intro hxh hcat)))))
            have hdl : db ≤ wr.heap.size := by have := HBR.out.size; rw [HDB.out] at this; exact this
            clear hx hxe hxt hxm hxh hcat hdec htl hs2
            go_wp2_with fail
            refine (step_any db cb how held x.at_ (psOf rs) p wr HDEC.out HCR.out HPS.out (by omega) (by omega)).mono ?_
            rintro e W5 ⟨v, y, hy, rfl, hf5, hd5, hk5⟩
            have HX2 := Lib.hid (show stepP (psOf rs) how (s2 ++ p).data.toList 0 = StepA.pre x.out x.fs y from by
              obtain ⟨h1, h2, h3, h4, h5, h6⟩ := HST.out
              have happ := stepP_app (psOf rs) how p.data.toList s2.data.toList.length s2.data.toList 0 (Nat.le_refl _)
              rw [h1, if_pos h2, ← h5, hy] at happ
              rw [← happ]; simp)
            have hyi := stepR_inv (psOf rs) how HPS.out ((held.data.toList ++ p.data.toList).length + 1) [] [] (held.data.toList ++ p.data.toList) x.at_ y hy
            rw [List.length_append, ← size_toList, ← size_toList] at hyi
            simp only [List.length_nil, Nat.zero_add] at hyi
            have HYI := Lib.hid hyi
            have hyf : y.fs.length ≤ 3000 := by have := hyi.2.1; omega
            have hyo : y.out.length ≤ 300000 * 3000 := by have := hyi.1; omega
            have HHE := Lib.hid (held_lt HOK.out how (s2 ++ p).data.toList 0)
            have HSF := Lib.hid (show how = 1 → ((StepA.pre x.out x.fs y).er = 0 → (StepA.pre x.out x.fs y).fs = []) ∧ ((StepA.pre x.out x.fs y).er ≠ 0 → (StepA.pre x.out x.fs y).fs ≠ []) from by
              rintro rfl
              rw [← HX2.out]
              exact strict_fs (psOf rs) _ _ _ (Nat.le_refl _))
            rw [HX2.out] at HHE
            obtain ⟨xo, xf, xh, xa, xc, xe⟩ := x
            obtain ⟨yo, yf, yh, ya, yc, ye⟩ := y
            simp only [StepA.pre] at HHE HSF HX2 HST HYI hyf hyo hf5 hd5 haz hdl ⊢
            obtain ⟨va, vcap, rfl, -⟩ := ownsRow_shapeN hf5
            have HF5 := Lib.hid hf5
            have HD5 := Lib.hid hd5
            have HB5 := Lib.hid (show Below db w3 W5 from HBR.out.trans (hk5.below hdl (fun j e => by omega)))
            have HC5 := Lib.hid (show ChLow W5 cb (psOf rs) db from HC3.out.below HB5.out)
            have hb1l : b1 < db := by
              obtain ⟨_, _, hv, _, _, _, h3⟩ := HP3.out
              cases hv
              rcases h3 with h3 | ⟨b, off, ha, hc⟩
              · have hx := congrArg List.length h3; have hy := HNP.out; simp only [List.length_nil] at hx; omega
              · cases ha
                rw [← HDB.out]
                exact cell_lt (hc 0 (by rw [HNP.out]; omega))
            have c5 : W5.cell? ⟨b1, o1 + i, none⟩ = some (.string p) := keep_cell hk5 c1 (by omega)
            have hcat : ¬ 9223372036854775807 < s2.size + p.size := by omega
            have hs3z : (s2 ++ p).size ≤ 10000 := by rw [ByteArray.size_append]; omega
            clear hy hyi hf5 hd5 hk5 c1 HDEC HCR
            obtain ⟨yb, hyb⟩ : ∃ b : ByteArray, (⟨yo.toArray⟩ : ByteArray) = b := ⟨_, rfl⟩
            have HYB := Lib.hid (show yb.data.toList = yo from by rw [← hyb])
            rw [hyb]
            clear hyb
            go_wp2_with fail
            refine (read_any pv rs how (s2 ++ p) W5 (HPL.out.mono HB5.out HDB.out.symm) HOK.out HPS.out hs3z).mono ?_
            rw [HX2.out]
            rintro e W6 ⟨⟨gv, rfl, hg⟩, hb6⟩
            simp only at hg ⊢
            obtain ⟨ga, gcap, rfl, hg1, hg2, -⟩ := ownsRow_shapeN hg
            have HB6 := Lib.hid (HB5.out.trans (hb6.mono (by have := HB5.out.size; rw [HDB.out] at this; exact this)))
            have HD6 := Lib.hid (HD5.out.below hb6 (by have := HB5.out.size; rw [HDB.out] at this; have := HD5.out.lt; omega))
            have HF6 := Lib.hid (OwnF.rd (show OwnF _ W6 _ yf from ownsRow_below HF5.out hb6 rfl))
            have hxl : xf.length = m := HST.out.2.2.2.1.symm
            obtain ⟨M, hM⟩ : ∃ M, (xf ++ yf).length = M := ⟨_, rfl⟩
            have hmM : m ≤ M := by rw [← hM, List.length_append, hxl]; omega
            have hg' := hg.rd
            rw [hM] at hg' hg1 ⊢
            have hgd := hg'.drop hmM
            rw [show (xf ++ yf).drop m = yf from by rw [← hxl]; simp] at hgd
            obtain ⟨A, hA⟩ : ∃ A, (if gcap = m then ga else ga.map (fun x => x.add (m * 2))) = A := ⟨_, rfl⟩
            have HGD := Lib.hid (show RdF W6 (.slice A (M - m) (gcap - m)) yf from by rw [← hA]; exact hgd)
            have HMM := Lib.hid hM
            have hMz : M ≤ 9000 := by rw [← hM, List.length_append, hxl]; omega
            obtain ⟨wb, hwb⟩ : ∃ b : ByteArray, (⟨(xo ++ yo).toArray⟩ : ByteArray) = b := ⟨_, rfl⟩
            have HWB := Lib.hid (show wb.data.toList = xo ++ yo from by rw [← hwb])
            rw [hwb]
            have hwz : t.size ≤ wb.size := by rw [size_toList, size_toList, HWB.out, HST.out.2.2.1, List.length_append]; omega
            have hwz2 : wb.size ≤ 3000000000 := by rw [size_toList, HWB.out, List.length_append, ← HST.out.2.2.1, ← size_toList]; omega
            have hex : wb.extract t.size wb.size = yb := by
              apply bytes_eq
              rw [extract_drop, HWB.out, HYB.out, size_toList, HST.out.2.2.1]
              simp
            clear hwb hM hxl hg hg' hgd hb6 HF5 HD5
            go_wp2_with fail
            refine (faults_any _ _ yf W6 HF6.out HGD.out).mono ?_
            rintro e W7 ⟨rfl, hb7⟩
            have HB7 := Lib.hid (HB6.out.trans (hb7.mono (by have := HB6.out.size; rw [HDB.out] at this; exact this)))
            have HD7 := Lib.hid (HD6.out.below hb7 (by have := HB6.out.size; rw [HDB.out] at this; have := HD6.out.lt; omega))
            clear hb7 HB6 HD6 HF6 HGD
            rcases HYI.out.2.2.2 with ⟨rfl, rfl, hyt⟩ | ⟨rfl, rfl, rfl, hw1⟩
            · have HYT := Lib.hid hyt; clear hyt
              have hcl : how = 1 → M = 0 := fun h1 => by rw [← HMM.out, (HSF.out h1).1 rfl]; rfl
              obtain ⟨hb, hhb⟩ : ∃ b : ByteArray, (⟨yh.toArray⟩ : ByteArray) = b := ⟨_, rfl⟩
              have HHB := Lib.hid (show hb.data.toList = yh from by rw [← hhb])
              rw [hhb] at HD7
              have hya : ya + hb.size = (s2 ++ p).size := by
                have h1 := HYT.out
                have h2 := HIN.out.2.2.2
                rw [size_toList, HHB.out, ByteArray.size_append]
                simp only [HST.out.2.1] at h2
                omega
              have hyz : ya ≤ (s2 ++ p).size := by omega
              have hsx : (s2 ++ p).extract ya (s2 ++ p).size = hb := by
                apply bytes_eq
                rw [extract_drop, HHB.out]
                exact held_drop HX2.out (by rw [← size_toList, ← hya, size_toList hb, HHB.out])
              rw [ByteArray.size_append] at hya hyz hsx
              have hyi : (ya : Int) ≤ (s2.size : Int) + (p.size : Int) := by omega
              have hlz : hb.size < max 1 (longOf (pickL rs rs.length)) := by
                have := HHE.out rfl
                rwa [size_toList, HHB.out]
              obtain ⟨L, hL⟩ : ∃ L, longOf (pickL rs rs.length) = L := ⟨_, rfl⟩
              rw [hL] at hlz
              have HL := Lib.hid hL
              clear hhb hL
              by_cases h1 : how = 1
              · obtain rfl : M = 0 := hcl h1
                have e1 : (how == 1) = true := by simp [h1]
                clear h1 hcl
                go_wp2_with (go_at_call 21; refine (at_any db cb how _ _ _ _ HD7.out).mono ?_; rintro e w' ⟨rfl, hww⟩; obtain rfl := hww.symm)
                refine wp_region_E (S := fun _ => True) (E := fun _ => true) (by kernel_rfl) ?_
                have HD7 := Lib.hid (show DecB W7.drew db cb _ _ _ _ from HD7.out)
                have HB7 := Lib.hid (show Below db w3 W7.drew from HB7.out.drew)
                obtain ⟨W8, hW8⟩ : ∃ W, W7.drew = W := ⟨_, rfl⟩
                rw [hW8] at HD7 HB7
                try rw [hW8]
                clear hW8
                refine wpAnyE_takeW (i := 0) (d := some 161) (v := ?_) rfl rfl (by kernel_rfl) (by kernel_rfl) (by kernel_rfl) rfl (fun _ _ _ h => h) (Or.inl ⟨by rfl, ?_⟩) ?_
                rotate_left
                · intro w hSw; (try dsimp only at hSw); go_simp; all_goals (with_reducible rfl)
                simp only [Act.put, List.setIfInBounds_toArray, List.set_cons_zero, List.set_cons_succ]
                refine wpAnyE_takeW (i := 1) (d := some 162) (v := ?_) rfl rfl (by kernel_rfl) (by kernel_rfl) (by kernel_rfl) rfl (fun _ _ _ h => h) (Or.inl ⟨by rfl, ?_⟩) ?_
                rotate_left
                · intro w hSw; (try dsimp only at hSw); go_simp; all_goals (with_reducible rfl)
                simp only [Act.put, List.setIfInBounds_toArray, List.set_cons_zero, List.set_cons_succ]
                refine wpAnyE_takeW (i := 2) (d := some 163) (v := undef) rfl rfl (by kernel_rfl) (by kernel_rfl) (by kernel_rfl) rfl (fun _ _ _ h => h) (Or.inr ⟨by rfl, rfl⟩) ?_
                simp only [Act.put, List.setIfInBounds_toArray, List.set_cons_zero, List.set_cons_succ]
                refine wpAnyE_takeW (i := 3) (d := some 164) (v := undef) rfl rfl (by kernel_rfl) (by kernel_rfl) (by kernel_rfl) rfl (fun _ _ _ h => h) (Or.inr ⟨by rfl, rfl⟩) ?_
                simp only [Act.put, List.setIfInBounds_toArray, List.set_cons_zero, List.set_cons_succ]
                refine wpAnyE_takeW (i := 4) (d := some 165) (v := undef) rfl rfl (by kernel_rfl) (by kernel_rfl) (by kernel_rfl) rfl (fun _ _ _ h => h) (Or.inr ⟨by rfl, rfl⟩) ?_
                simp only [Act.put, List.setIfInBounds_toArray, List.set_cons_zero, List.set_cons_succ]
                refine wpAnyE_takeW (i := 5) (d := some 166) (v := undef) rfl rfl (by kernel_rfl) (by kernel_rfl) (by kernel_rfl) rfl (fun _ _ _ h => h) (Or.inr ⟨by rfl, rfl⟩) ?_
                simp only [Act.put, List.setIfInBounds_toArray, List.set_cons_zero, List.set_cons_succ]
                refine wpAnyE_takeW (i := 6) (d := some 167) (v := undef) rfl rfl (by kernel_rfl) (by kernel_rfl) (by kernel_rfl) rfl (fun _ _ _ h => h) (Or.inr ⟨by rfl, rfl⟩) ?_
                simp only [Act.put, List.setIfInBounds_toArray, List.set_cons_zero, List.set_cons_succ]
                refine wpAnyE_takeW (i := 7) (d := some 168) (v := undef) rfl rfl (by kernel_rfl) (by kernel_rfl) (by kernel_rfl) rfl (fun _ _ _ h => h) (Or.inr ⟨by rfl, rfl⟩) ?_
                simp only [Act.put, List.setIfInBounds_toArray, List.set_cons_zero, List.set_cons_succ]
                refine wpAnyE_takeW (i := 8) (d := some 169) (v := undef) rfl rfl (by kernel_rfl) (by kernel_rfl) (by kernel_rfl) rfl (fun _ _ _ h => h) (Or.inr ⟨by rfl, rfl⟩) ?_
                simp only [Act.put, List.setIfInBounds_toArray, List.set_cons_zero, List.set_cons_succ]
                refine wpAnyE_takeW (i := 9) (d := some 170) (v := ?_) rfl rfl (by kernel_rfl) (by kernel_rfl) (by kernel_rfl) rfl (fun _ _ _ h => h) (Or.inl ⟨by rfl, ?_⟩) ?_
                rotate_left
                · intro w hSw; (try dsimp only at hSw); go_simp; all_goals (with_reducible rfl)
                simp only [Act.put, List.setIfInBounds_toArray, List.set_cons_zero, List.set_cons_succ]
                refine wpAnyE_takeW (i := 10) (d := some 171) (v := ?_) rfl rfl (by kernel_rfl) (by kernel_rfl) (by kernel_rfl) rfl (fun _ _ _ h => h) (Or.inl ⟨by rfl, ?_⟩) ?_
                rotate_left
                · intro w hSw; (try dsimp only at hSw); go_simp; all_goals (with_reducible rfl)
                simp only [Act.put, List.setIfInBounds_toArray, List.set_cons_zero, List.set_cons_succ]
                refine wpAnyE_takeW (i := 11) (d := some 172) (v := ?_) rfl rfl (by kernel_rfl) (by kernel_rfl) (by kernel_rfl) rfl (fun _ _ _ h => h) (Or.inl ⟨by rfl, ?_⟩) ?_
                rotate_left
                · intro w hSw; (try dsimp only at hSw); go_simp; all_goals (with_reducible rfl)
                simp only [Act.put, List.setIfInBounds_toArray, List.set_cons_zero, List.set_cons_succ]
                refine wpAnyE_takeW (i := 12) (d := some 173) (v := ?_) rfl rfl (by kernel_rfl) (by kernel_rfl) (by kernel_rfl) rfl (fun _ _ _ h => h) (Or.inl ⟨by rfl, ?_⟩) ?_
                rotate_left
                · intro w hSw; (try dsimp only at hSw); go_simp; all_goals (with_reducible rfl)
                simp only [Act.put, List.setIfInBounds_toArray, List.set_cons_zero, List.set_cons_succ]
                refine wpAnyE_takeW (i := 13) (d := some 174) (v := ?_) rfl rfl (by kernel_rfl) (by kernel_rfl) (by kernel_rfl) rfl (fun _ _ _ h => h) (Or.inl ⟨by rfl, ?_⟩) ?_
                rotate_left
                · intro w hSw; (try dsimp only at hSw); go_simp; all_goals (with_reducible rfl)
                simp only [Act.put, List.setIfInBounds_toArray, List.set_cons_zero, List.set_cons_succ]
                refine wpAnyE_takeW (i := 14) (d := some 175) (v := ?_) rfl rfl (by kernel_rfl) (by kernel_rfl) (by kernel_rfl) rfl (fun _ _ _ h => h) (Or.inl ⟨by rfl, ?_⟩) ?_
                rotate_left
                · intro w hSw; (try dsimp only at hSw); go_simp; all_goals (with_reducible rfl)
                simp only [Act.put, List.setIfInBounds_toArray, List.set_cons_zero, List.set_cons_succ]
                refine wpAnyE_takeW (i := 15) (d := some 176) (v := ?_) rfl rfl (by kernel_rfl) (by kernel_rfl) (by kernel_rfl) rfl (fun _ _ _ h => h) (Or.inl ⟨by rfl, ?_⟩) ?_
                rotate_left
                · intro w hSw; (try dsimp only at hSw); go_simp; all_goals (with_reducible rfl)
                simp only [Act.put, List.setIfInBounds_toArray, List.set_cons_zero, List.set_cons_succ]
                refine wpAnyE_takeW (i := 16) (d := some 177) (v := ?_) rfl rfl (by kernel_rfl) (by kernel_rfl) (by kernel_rfl) rfl (fun _ _ _ h => h) (Or.inl ⟨by rfl, ?_⟩) ?_
                rotate_left
                · intro w hSw; (try dsimp only at hSw); go_simp; all_goals (with_reducible rfl)
                simp only [Act.put, List.setIfInBounds_toArray, List.set_cons_zero, List.set_cons_succ]
                refine wpAnyE_takeW (i := 17) (d := some 178) (v := ?_) rfl rfl (by kernel_rfl) (by kernel_rfl) (by kernel_rfl) rfl (fun _ _ _ h => h) (Or.inl ⟨by rfl, ?_⟩) ?_
                rotate_left
                · intro w hSw; (try dsimp only at hSw); go_simp; all_goals (with_reducible rfl)
                simp only [Act.put, List.setIfInBounds_toArray, List.set_cons_zero, List.set_cons_succ]
                refine wpAnyE_takeW (i := 19) (d := some 180) (v := ?_) rfl rfl (by kernel_rfl) (by kernel_rfl) (by kernel_rfl) rfl (fun _ _ _ h => h) (Or.inl ⟨by rfl, ?_⟩) ?_
                rotate_left
                · intro w hSw; (try dsimp only at hSw); go_simp; all_goals (with_reducible rfl)
                simp only [Act.put, List.setIfInBounds_toArray, List.set_cons_zero, List.set_cons_succ]
                refine wpAnyE_takeW (i := 20) (d := some 181) (v := ?_) rfl rfl (by kernel_rfl) (by kernel_rfl) (by kernel_rfl) rfl (fun _ _ _ h => h) (Or.inl ⟨by rfl, ?_⟩) ?_
                rotate_left
                · intro w hSw; (try dsimp only at hSw); go_simp; all_goals (with_reducible rfl)
                simp only [Act.put, List.setIfInBounds_toArray, List.set_cons_zero, List.set_cons_succ]
                refine wpAnyE_takeW (i := 21) (d := some 182) (v := .string hb) rfl rfl (by kernel_rfl) (by kernel_rfl) (by kernel_rfl) rfl (fun _ _ _ h => h) (Or.inl ⟨by rfl, ?_⟩) ?_
                · intro w hSw; (try dsimp only at hSw); go_simp; all_goals (with_reducible rfl)
                simp only [Act.put, List.setIfInBounds_toArray, List.set_cons_zero, List.set_cons_succ]
                refine wpAnyE_ready (rs := [18]) (by kernel_rfl) (by simp) ?_
                refine AllE.cons rfl (fun K hK => ?_) AllE.nil
                go_simp
                refine (held_any db cb how _ _ _ _ HD7.out).mono ?_
                rintro e w' ⟨rfl, hww⟩
                obtain rfl := hww.symm
                go_wp2_with fail
                refine hK.out _ _ (fun _ => trivial) ?_
                clear hK K
                try simp only [Act.put, List.setIfInBounds_toArray, List.set_cons_zero, List.set_cons_succ]
                refine wpAnyE_takeW (i := 22) (d := some 183) (v := ?_) rfl rfl (by kernel_rfl) (by kernel_rfl) (by kernel_rfl) rfl (fun _ _ _ h => h) (Or.inl ⟨by rfl, ?_⟩) ?_
                rotate_left
                · intro w hSw; (try dsimp only at hSw); go_simp; all_goals (with_reducible rfl)
                simp only [Act.put, List.setIfInBounds_toArray, List.set_cons_zero, List.set_cons_succ]
                refine wpAnyE_takeW (i := 23) (d := some 184) (v := ?_) rfl rfl (by kernel_rfl) (by kernel_rfl) (by kernel_rfl) rfl (fun _ _ _ h => h) (Or.inl ⟨by rfl, ?_⟩) ?_
                rotate_left
                · intro w hSw; (try dsimp only at hSw); go_simp; all_goals (with_reducible rfl)
                simp only [Act.put, List.setIfInBounds_toArray, List.set_cons_zero, List.set_cons_succ]
                refine wpAnyE_takeW (i := 24) (d := some 185) (v := ?_) rfl rfl (by kernel_rfl) (by kernel_rfl) (by kernel_rfl) rfl (fun _ _ _ h => h) (Or.inl ⟨by rfl, ?_⟩) ?_
                rotate_left
                · intro w hSw; (try dsimp only at hSw); go_simp; all_goals (with_reducible rfl)
                simp only [Act.put, List.setIfInBounds_toArray, List.set_cons_zero, List.set_cons_succ]
                refine wpAnyE_takeW (i := 25) (d := some 186) (v := ?_) rfl rfl (by kernel_rfl) (by kernel_rfl) (by kernel_rfl) rfl (fun _ _ _ h => h) (Or.inl ⟨by rfl, ?_⟩) ?_
                rotate_left
                · intro w hSw; (try dsimp only at hSw); go_simp; all_goals (with_reducible rfl)
                simp only [Act.put, List.setIfInBounds_toArray, List.set_cons_zero, List.set_cons_succ]
                refine wpAnyE_takeW (i := 28) (d := some 189) (v := ?_) rfl rfl (by kernel_rfl) (by kernel_rfl) (by kernel_rfl) rfl (fun _ _ _ h => h) (Or.inl ⟨by rfl, ?_⟩) ?_
                rotate_left
                · intro w hSw; (try dsimp only at hSw); go_simp; all_goals (with_reducible rfl)
                simp only [Act.put, List.setIfInBounds_toArray, List.set_cons_zero, List.set_cons_succ]
                refine wpAnyE_ready (rs := [26]) (by kernel_rfl) (by simp) ?_
                refine AllE.cons rfl (fun K hK => ?_) AllE.nil
                go_simp
                refine (held_any db cb how _ _ _ _ HD7.out).mono ?_
                rintro e w' ⟨rfl, hww⟩
                obtain rfl := hww.symm
                go_wp2_with fail
                refine hK.out _ _ (fun _ => trivial) ?_
                clear hK K
                try simp only [Act.put, List.setIfInBounds_toArray, List.set_cons_zero, List.set_cons_succ]
                refine wpAnyE_takeW (i := 27) (d := some 188) (v := ?_) rfl rfl (by kernel_rfl) (by kernel_rfl) (by kernel_rfl) rfl (fun _ _ _ h => h) (Or.inl ⟨by rfl, ?_⟩) ?_
                rotate_left
                · intro w hSw; (try dsimp only at hSw); go_simp; all_goals (with_reducible rfl)
                simp only [Act.put, List.setIfInBounds_toArray, List.set_cons_zero, List.set_cons_succ]
                refine wpAnyE_ready (rs := [29]) (by kernel_rfl) (by simp) ?_
                refine AllE.cons rfl (fun K hK => ?_) AllE.nil
                go_simp
                refine (longest_any cb _ rs W8 ((HB7.out.cell (p := ⟨cb, 2, none⟩) (by rw [← HDB.out]; exact cell_lt HM3.out)).trans HM3.out) (HR3.out.mono HB7.out HDB.out.symm)).mono ?_
                rintro e W9 ⟨rfl, hb9⟩
                rw [HL.out]
                have HB9 := Lib.hid (HB7.out.trans (hb9.mono (by have := HB7.out.size; rw [HDB.out] at this; exact this)))
                have HD9 := Lib.hid (HD7.out.below hb9 HD7.out.lt)
                clear hb9
                go_wp2_with fail
                refine hK.out _ _ (fun _ => trivial) ?_
                clear hK K
                try simp only [Act.put, List.setIfInBounds_toArray, List.set_cons_zero, List.set_cons_succ]
                refine wpAnyE_takeW (i := 30) (d := some 191) (v := ?_) rfl rfl (by kernel_rfl) (by kernel_rfl) (by kernel_rfl) rfl (fun _ _ _ h => h) (Or.inl ⟨by rfl, ?_⟩) ?_
                rotate_left
                · intro w hSw; (try dsimp only at hSw); go_simp; all_goals (with_reducible rfl)
                simp only [Act.put, List.setIfInBounds_toArray, List.set_cons_zero, List.set_cons_succ]
                refine wpAnyE_takeW (i := 31) (d := some 192) (v := ?_) rfl rfl (by kernel_rfl) (by kernel_rfl) (by kernel_rfl) rfl (fun _ _ _ h => h) (Or.inl ⟨by rfl, ?_⟩) ?_
                rotate_left
                · intro w hSw; (try dsimp only at hSw); go_simp; all_goals (with_reducible rfl)
                simp only [Act.put, List.setIfInBounds_toArray, List.set_cons_zero, List.set_cons_succ]
                refine wpAnyE_takeW (i := 32) (d := some 193) (v := ?_) rfl rfl (by kernel_rfl) (by kernel_rfl) (by kernel_rfl) rfl (fun _ _ _ h => h) (Or.inl ⟨by rfl, ?_⟩) ?_
                rotate_left
                · intro w hSw; (try dsimp only at hSw); go_simp; all_goals (with_reducible rfl)
                simp only [Act.put, List.setIfInBounds_toArray, List.set_cons_zero, List.set_cons_succ]
                refine wpAnyE_takeW (i := 33) (d := some 194) (v := ?_) rfl rfl (by kernel_rfl) (by kernel_rfl) (by kernel_rfl) rfl (fun _ _ _ h => h) (Or.inl ⟨by rfl, ?_⟩) ?_
                rotate_left
                · intro w hSw; (try dsimp only at hSw); go_simp; all_goals (with_reducible rfl)
                simp only [Act.put, List.setIfInBounds_toArray, List.set_cons_zero, List.set_cons_succ]
                refine wpAnyE_takeW (i := 34) (d := some 195) (v := ?_) rfl rfl (by kernel_rfl) (by kernel_rfl) (by kernel_rfl) rfl (fun _ _ _ h => h) (Or.inl ⟨by rfl, ?_⟩) ?_
                rotate_left
                · intro w hSw; (try dsimp only at hSw); go_simp; all_goals (with_reducible rfl)
                simp only [Act.put, List.setIfInBounds_toArray, List.set_cons_zero, List.set_cons_succ]
                refine wpAnyE_done (by kernel_rfl) ?_ _
                go_wp2
                go_roundw
                case rel => exact ⟨i + 1, s2 ++ p, wb, 0, false, rfl, rfl, rfl, rfl, by go_num, by omega, .inl ⟨rfl, hb, ⟨xo ++ yo, xf ++ yf, yh, ya, false, 0⟩, HX2.out, rfl, HWB.out, HMM.out.symm, HHB.out, HD9.out, by rw [HCAT2.out, ← HST.out.2.2.2.2.2]; simp⟩, HB9.out⟩
                case measure => simp [intOf]; omega
              · have e1 : (how == 1) = false := by simp [h1]
                clear h1 hcl
                go_wp2_with (go_at_call 21; refine (at_any db cb how _ _ _ _ HD7.out).mono ?_; rintro e w' ⟨rfl, hww⟩; obtain rfl := hww.symm)
                refine wp_region_E (S := fun _ => True) (E := fun _ => true) (by kernel_rfl) ?_
                have HD7 := Lib.hid (show DecB W7.drew db cb _ _ _ _ from HD7.out)
                have HB7 := Lib.hid (show Below db w3 W7.drew from HB7.out.drew)
                obtain ⟨W8, hW8⟩ : ∃ W, W7.drew = W := ⟨_, rfl⟩
                rw [hW8] at HD7 HB7
                try rw [hW8]
                clear hW8
                refine wpAnyE_takeW (i := 0) (d := some 161) (v := ?_) rfl rfl (by kernel_rfl) (by kernel_rfl) (by kernel_rfl) rfl (fun _ _ _ h => h) (Or.inl ⟨by rfl, ?_⟩) ?_
                rotate_left
                · intro w hSw; (try dsimp only at hSw); go_simp; all_goals (with_reducible rfl)
                simp only [Act.put, List.setIfInBounds_toArray, List.set_cons_zero, List.set_cons_succ]
                refine wpAnyE_takeW (i := 1) (d := some 162) (v := ?_) rfl rfl (by kernel_rfl) (by kernel_rfl) (by kernel_rfl) rfl (fun _ _ _ h => h) (Or.inl ⟨by rfl, ?_⟩) ?_
                rotate_left
                · intro w hSw; (try dsimp only at hSw); go_simp; all_goals (with_reducible rfl)
                simp only [Act.put, List.setIfInBounds_toArray, List.set_cons_zero, List.set_cons_succ]
                refine wpAnyE_takeW (i := 2) (d := some 163) (v := undef) rfl rfl (by kernel_rfl) (by kernel_rfl) (by kernel_rfl) rfl (fun _ _ _ h => h) (Or.inr ⟨by rfl, rfl⟩) ?_
                simp only [Act.put, List.setIfInBounds_toArray, List.set_cons_zero, List.set_cons_succ]
                refine wpAnyE_takeW (i := 3) (d := some 164) (v := undef) rfl rfl (by kernel_rfl) (by kernel_rfl) (by kernel_rfl) rfl (fun _ _ _ h => h) (Or.inr ⟨by rfl, rfl⟩) ?_
                simp only [Act.put, List.setIfInBounds_toArray, List.set_cons_zero, List.set_cons_succ]
                refine wpAnyE_takeW (i := 4) (d := some 165) (v := undef) rfl rfl (by kernel_rfl) (by kernel_rfl) (by kernel_rfl) rfl (fun _ _ _ h => h) (Or.inr ⟨by rfl, rfl⟩) ?_
                simp only [Act.put, List.setIfInBounds_toArray, List.set_cons_zero, List.set_cons_succ]
                refine wpAnyE_takeW (i := 5) (d := some 166) (v := undef) rfl rfl (by kernel_rfl) (by kernel_rfl) (by kernel_rfl) rfl (fun _ _ _ h => h) (Or.inr ⟨by rfl, rfl⟩) ?_
                simp only [Act.put, List.setIfInBounds_toArray, List.set_cons_zero, List.set_cons_succ]
                refine wpAnyE_takeW (i := 6) (d := some 167) (v := undef) rfl rfl (by kernel_rfl) (by kernel_rfl) (by kernel_rfl) rfl (fun _ _ _ h => h) (Or.inr ⟨by rfl, rfl⟩) ?_
                simp only [Act.put, List.setIfInBounds_toArray, List.set_cons_zero, List.set_cons_succ]
                refine wpAnyE_takeW (i := 7) (d := some 168) (v := undef) rfl rfl (by kernel_rfl) (by kernel_rfl) (by kernel_rfl) rfl (fun _ _ _ h => h) (Or.inr ⟨by rfl, rfl⟩) ?_
                simp only [Act.put, List.setIfInBounds_toArray, List.set_cons_zero, List.set_cons_succ]
                refine wpAnyE_takeW (i := 8) (d := some 169) (v := undef) rfl rfl (by kernel_rfl) (by kernel_rfl) (by kernel_rfl) rfl (fun _ _ _ h => h) (Or.inr ⟨by rfl, rfl⟩) ?_
                simp only [Act.put, List.setIfInBounds_toArray, List.set_cons_zero, List.set_cons_succ]
                refine wpAnyE_takeW (i := 9) (d := some 170) (v := ?_) rfl rfl (by kernel_rfl) (by kernel_rfl) (by kernel_rfl) rfl (fun _ _ _ h => h) (Or.inl ⟨by rfl, ?_⟩) ?_
                rotate_left
                · intro w hSw; (try dsimp only at hSw); go_simp; all_goals (with_reducible rfl)
                simp only [Act.put, List.setIfInBounds_toArray, List.set_cons_zero, List.set_cons_succ]
                refine wpAnyE_takeW (i := 10) (d := some 171) (v := ?_) rfl rfl (by kernel_rfl) (by kernel_rfl) (by kernel_rfl) rfl (fun _ _ _ h => h) (Or.inl ⟨by rfl, ?_⟩) ?_
                rotate_left
                · intro w hSw; (try dsimp only at hSw); go_simp; all_goals (with_reducible rfl)
                simp only [Act.put, List.setIfInBounds_toArray, List.set_cons_zero, List.set_cons_succ]
                refine wpAnyE_takeW (i := 11) (d := some 172) (v := ?_) rfl rfl (by kernel_rfl) (by kernel_rfl) (by kernel_rfl) rfl (fun _ _ _ h => h) (Or.inl ⟨by rfl, ?_⟩) ?_
                rotate_left
                · intro w hSw; (try dsimp only at hSw); go_simp; all_goals (with_reducible rfl)
                simp only [Act.put, List.setIfInBounds_toArray, List.set_cons_zero, List.set_cons_succ]
                refine wpAnyE_takeW (i := 12) (d := some 173) (v := ?_) rfl rfl (by kernel_rfl) (by kernel_rfl) (by kernel_rfl) rfl (fun _ _ _ h => h) (Or.inl ⟨by rfl, ?_⟩) ?_
                rotate_left
                · intro w hSw; (try dsimp only at hSw); go_simp; all_goals (with_reducible rfl)
                simp only [Act.put, List.setIfInBounds_toArray, List.set_cons_zero, List.set_cons_succ]
                refine wpAnyE_takeW (i := 13) (d := some 174) (v := ?_) rfl rfl (by kernel_rfl) (by kernel_rfl) (by kernel_rfl) rfl (fun _ _ _ h => h) (Or.inl ⟨by rfl, ?_⟩) ?_
                rotate_left
                · intro w hSw; (try dsimp only at hSw); go_simp; all_goals (with_reducible rfl)
                simp only [Act.put, List.setIfInBounds_toArray, List.set_cons_zero, List.set_cons_succ]
                refine wpAnyE_takeW (i := 14) (d := some 175) (v := ?_) rfl rfl (by kernel_rfl) (by kernel_rfl) (by kernel_rfl) rfl (fun _ _ _ h => h) (Or.inl ⟨by rfl, ?_⟩) ?_
                rotate_left
                · intro w hSw; (try dsimp only at hSw); go_simp; all_goals (with_reducible rfl)
                simp only [Act.put, List.setIfInBounds_toArray, List.set_cons_zero, List.set_cons_succ]
                refine wpAnyE_takeW (i := 15) (d := some 176) (v := ?_) rfl rfl (by kernel_rfl) (by kernel_rfl) (by kernel_rfl) rfl (fun _ _ _ h => h) (Or.inl ⟨by rfl, ?_⟩) ?_
                rotate_left
                · intro w hSw; (try dsimp only at hSw); go_simp; all_goals (with_reducible rfl)
                simp only [Act.put, List.setIfInBounds_toArray, List.set_cons_zero, List.set_cons_succ]
                refine wpAnyE_takeW (i := 16) (d := some 177) (v := ?_) rfl rfl (by kernel_rfl) (by kernel_rfl) (by kernel_rfl) rfl (fun _ _ _ h => h) (Or.inl ⟨by rfl, ?_⟩) ?_
                rotate_left
                · intro w hSw; (try dsimp only at hSw); go_simp; all_goals (with_reducible rfl)
                simp only [Act.put, List.setIfInBounds_toArray, List.set_cons_zero, List.set_cons_succ]
                refine wpAnyE_takeW (i := 17) (d := some 178) (v := ?_) rfl rfl (by kernel_rfl) (by kernel_rfl) (by kernel_rfl) rfl (fun _ _ _ h => h) (Or.inl ⟨by rfl, ?_⟩) ?_
                rotate_left
                · intro w hSw; (try dsimp only at hSw); go_simp; all_goals (with_reducible rfl)
                simp only [Act.put, List.setIfInBounds_toArray, List.set_cons_zero, List.set_cons_succ]
                refine wpAnyE_takeW (i := 19) (d := some 180) (v := ?_) rfl rfl (by kernel_rfl) (by kernel_rfl) (by kernel_rfl) rfl (fun _ _ _ h => h) (Or.inl ⟨by rfl, ?_⟩) ?_
                rotate_left
                · intro w hSw; (try dsimp only at hSw); go_simp; all_goals (with_reducible rfl)
                simp only [Act.put, List.setIfInBounds_toArray, List.set_cons_zero, List.set_cons_succ]
                refine wpAnyE_takeW (i := 20) (d := some 181) (v := ?_) rfl rfl (by kernel_rfl) (by kernel_rfl) (by kernel_rfl) rfl (fun _ _ _ h => h) (Or.inl ⟨by rfl, ?_⟩) ?_
                rotate_left
                · intro w hSw; (try dsimp only at hSw); go_simp; all_goals (with_reducible rfl)
                simp only [Act.put, List.setIfInBounds_toArray, List.set_cons_zero, List.set_cons_succ]
                refine wpAnyE_takeW (i := 21) (d := some 182) (v := .string hb) rfl rfl (by kernel_rfl) (by kernel_rfl) (by kernel_rfl) rfl (fun _ _ _ h => h) (Or.inl ⟨by rfl, ?_⟩) ?_
                · intro w hSw; (try dsimp only at hSw); go_simp; all_goals (with_reducible rfl)
                simp only [Act.put, List.setIfInBounds_toArray, List.set_cons_zero, List.set_cons_succ]
                refine wpAnyE_ready (rs := [18]) (by kernel_rfl) (by simp) ?_
                refine AllE.cons rfl (fun K hK => ?_) AllE.nil
                go_simp
                refine (held_any db cb how _ _ _ _ HD7.out).mono ?_
                rintro e w' ⟨rfl, hww⟩
                obtain rfl := hww.symm
                go_wp2_with fail
                refine hK.out _ _ (fun _ => trivial) ?_
                clear hK K
                try simp only [Act.put, List.setIfInBounds_toArray, List.set_cons_zero, List.set_cons_succ]
                refine wpAnyE_takeW (i := 22) (d := some 183) (v := ?_) rfl rfl (by kernel_rfl) (by kernel_rfl) (by kernel_rfl) rfl (fun _ _ _ h => h) (Or.inl ⟨by rfl, ?_⟩) ?_
                rotate_left
                · intro w hSw; (try dsimp only at hSw); go_simp; all_goals (with_reducible rfl)
                simp only [Act.put, List.setIfInBounds_toArray, List.set_cons_zero, List.set_cons_succ]
                refine wpAnyE_takeW (i := 23) (d := some 184) (v := ?_) rfl rfl (by kernel_rfl) (by kernel_rfl) (by kernel_rfl) rfl (fun _ _ _ h => h) (Or.inl ⟨by rfl, ?_⟩) ?_
                rotate_left
                · intro w hSw; (try dsimp only at hSw); go_simp; all_goals (with_reducible rfl)
                simp only [Act.put, List.setIfInBounds_toArray, List.set_cons_zero, List.set_cons_succ]
                refine wpAnyE_takeW (i := 24) (d := some 185) (v := ?_) rfl rfl (by kernel_rfl) (by kernel_rfl) (by kernel_rfl) rfl (fun _ _ _ h => h) (Or.inl ⟨by rfl, ?_⟩) ?_
                rotate_left
                · intro w hSw; (try dsimp only at hSw); go_simp; all_goals (with_reducible rfl)
                simp only [Act.put, List.setIfInBounds_toArray, List.set_cons_zero, List.set_cons_succ]
                refine wpAnyE_takeW (i := 25) (d := some 186) (v := ?_) rfl rfl (by kernel_rfl) (by kernel_rfl) (by kernel_rfl) rfl (fun _ _ _ h => h) (Or.inl ⟨by rfl, ?_⟩) ?_
                rotate_left
                · intro w hSw; (try dsimp only at hSw); go_simp; all_goals (with_reducible rfl)
                simp only [Act.put, List.setIfInBounds_toArray, List.set_cons_zero, List.set_cons_succ]
                refine wpAnyE_takeW (i := 28) (d := some 189) (v := ?_) rfl rfl (by kernel_rfl) (by kernel_rfl) (by kernel_rfl) rfl (fun _ _ _ h => h) (Or.inl ⟨by rfl, ?_⟩) ?_
                rotate_left
                · intro w hSw; (try dsimp only at hSw); go_simp; all_goals (with_reducible rfl)
                simp only [Act.put, List.setIfInBounds_toArray, List.set_cons_zero, List.set_cons_succ]
                refine wpAnyE_ready (rs := [26]) (by kernel_rfl) (by simp) ?_
                refine AllE.cons rfl (fun K hK => ?_) AllE.nil
                go_simp
                refine (held_any db cb how _ _ _ _ HD7.out).mono ?_
                rintro e w' ⟨rfl, hww⟩
                obtain rfl := hww.symm
                go_wp2_with fail
                refine hK.out _ _ (fun _ => trivial) ?_
                clear hK K
                try simp only [Act.put, List.setIfInBounds_toArray, List.set_cons_zero, List.set_cons_succ]
                refine wpAnyE_takeW (i := 27) (d := some 188) (v := ?_) rfl rfl (by kernel_rfl) (by kernel_rfl) (by kernel_rfl) rfl (fun _ _ _ h => h) (Or.inl ⟨by rfl, ?_⟩) ?_
                rotate_left
                · intro w hSw; (try dsimp only at hSw); go_simp; all_goals (with_reducible rfl)
                simp only [Act.put, List.setIfInBounds_toArray, List.set_cons_zero, List.set_cons_succ]
                refine wpAnyE_ready (rs := [29]) (by kernel_rfl) (by simp) ?_
                refine AllE.cons rfl (fun K hK => ?_) AllE.nil
                go_simp
                refine (longest_any cb _ rs W8 ((HB7.out.cell (p := ⟨cb, 2, none⟩) (by rw [← HDB.out]; exact cell_lt HM3.out)).trans HM3.out) (HR3.out.mono HB7.out HDB.out.symm)).mono ?_
                rintro e W9 ⟨rfl, hb9⟩
                rw [HL.out]
                have HB9 := Lib.hid (HB7.out.trans (hb9.mono (by have := HB7.out.size; rw [HDB.out] at this; exact this)))
                have HD9 := Lib.hid (HD7.out.below hb9 HD7.out.lt)
                clear hb9
                go_wp2_with fail
                refine hK.out _ _ (fun _ => trivial) ?_
                clear hK K
                try simp only [Act.put, List.setIfInBounds_toArray, List.set_cons_zero, List.set_cons_succ]
                refine wpAnyE_takeW (i := 30) (d := some 191) (v := ?_) rfl rfl (by kernel_rfl) (by kernel_rfl) (by kernel_rfl) rfl (fun _ _ _ h => h) (Or.inl ⟨by rfl, ?_⟩) ?_
                rotate_left
                · intro w hSw; (try dsimp only at hSw); go_simp; all_goals (with_reducible rfl)
                simp only [Act.put, List.setIfInBounds_toArray, List.set_cons_zero, List.set_cons_succ]
                refine wpAnyE_takeW (i := 31) (d := some 192) (v := ?_) rfl rfl (by kernel_rfl) (by kernel_rfl) (by kernel_rfl) rfl (fun _ _ _ h => h) (Or.inl ⟨by rfl, ?_⟩) ?_
                rotate_left
                · intro w hSw; (try dsimp only at hSw); go_simp; all_goals (with_reducible rfl)
                simp only [Act.put, List.setIfInBounds_toArray, List.set_cons_zero, List.set_cons_succ]
                refine wpAnyE_takeW (i := 32) (d := some 193) (v := ?_) rfl rfl (by kernel_rfl) (by kernel_rfl) (by kernel_rfl) rfl (fun _ _ _ h => h) (Or.inl ⟨by rfl, ?_⟩) ?_
                rotate_left
                · intro w hSw; (try dsimp only at hSw); go_simp; all_goals (with_reducible rfl)
                simp only [Act.put, List.setIfInBounds_toArray, List.set_cons_zero, List.set_cons_succ]
                refine wpAnyE_takeW (i := 33) (d := some 194) (v := ?_) rfl rfl (by kernel_rfl) (by kernel_rfl) (by kernel_rfl) rfl (fun _ _ _ h => h) (Or.inl ⟨by rfl, ?_⟩) ?_
                rotate_left
                · intro w hSw; (try dsimp only at hSw); go_simp; all_goals (with_reducible rfl)
                simp only [Act.put, List.setIfInBounds_toArray, List.set_cons_zero, List.set_cons_succ]
                refine wpAnyE_takeW (i := 34) (d := some 195) (v := ?_) rfl rfl (by kernel_rfl) (by kernel_rfl) (by kernel_rfl) rfl (fun _ _ _ h => h) (Or.inl ⟨by rfl, ?_⟩) ?_
                rotate_left
                · intro w hSw; (try dsimp only at hSw); go_simp; all_goals (with_reducible rfl)
                simp only [Act.put, List.setIfInBounds_toArray, List.set_cons_zero, List.set_cons_succ]
                refine wpAnyE_done (by kernel_rfl) ?_ _
                go_wp2
                go_roundw
                case rel => exact ⟨i + 1, s2 ++ p, wb, M, false, rfl, rfl, rfl, rfl, by go_num, by omega, .inl ⟨rfl, hb, ⟨xo ++ yo, xf ++ yf, yh, ya, false, 0⟩, HX2.out, rfl, HWB.out, HMM.out.symm, HHB.out, HD9.out, by rw [HCAT2.out, ← HST.out.2.2.2.2.2]; simp⟩, HB9.out⟩
                case measure => simp [intOf]; omega
            · have hMp : 0 < M := by
                rw [← HMM.out]
                exact List.length_pos_iff.2 ((HSF.out hw1).2 (by decide))
              have e1 : (how == 1) = true := by simp [hw1]
              clear hw1
              go_wp2_with (go_at_call 21; refine (at_any db cb how _ _ _ _ HD7.out).mono ?_; rintro e w' ⟨rfl, hww⟩; obtain rfl := hww.symm)
              refine wp_region_E (S := fun _ => True) (E := fun _ => true) (by kernel_rfl) ?_
              have HD7 := Lib.hid (show DecB W7.drew db cb _ _ _ _ from HD7.out)
              have HB7 := Lib.hid (show Below db w3 W7.drew from HB7.out.drew)
              obtain ⟨W8, hW8⟩ : ∃ W, W7.drew = W := ⟨_, rfl⟩
              rw [hW8] at HD7 HB7
              try rw [hW8]
              clear hW8
              refine wpAnyE_takeW (i := 0) (d := some 161) (v := ?_) rfl rfl (by kernel_rfl) (by kernel_rfl) (by kernel_rfl) rfl (fun _ _ _ h => h) (Or.inl ⟨by rfl, ?_⟩) ?_
              rotate_left
              · intro w hSw; (try dsimp only at hSw); go_simp; all_goals (with_reducible rfl)
              simp only [Act.put, List.setIfInBounds_toArray, List.set_cons_zero, List.set_cons_succ]
              refine wpAnyE_takeW (i := 1) (d := some 162) (v := ?_) rfl rfl (by kernel_rfl) (by kernel_rfl) (by kernel_rfl) rfl (fun _ _ _ h => h) (Or.inl ⟨by rfl, ?_⟩) ?_
              rotate_left
              · intro w hSw; (try dsimp only at hSw); go_simp; all_goals (with_reducible rfl)
              simp only [Act.put, List.setIfInBounds_toArray, List.set_cons_zero, List.set_cons_succ]
              refine wpAnyE_takeW (i := 2) (d := some 163) (v := ?_) rfl rfl (by kernel_rfl) (by kernel_rfl) (by kernel_rfl) rfl (fun _ _ _ h => h) (Or.inl ⟨by rfl, ?_⟩) ?_
              rotate_left
              · intro w hSw; (try dsimp only at hSw); go_simp; all_goals (with_reducible rfl)
              simp only [Act.put, List.setIfInBounds_toArray, List.set_cons_zero, List.set_cons_succ]
              refine wpAnyE_takeW (i := 3) (d := some 164) (v := ?_) rfl rfl (by kernel_rfl) (by kernel_rfl) (by kernel_rfl) rfl (fun _ _ _ h => h) (Or.inl ⟨by rfl, ?_⟩) ?_
              rotate_left
              · intro w hSw; (try dsimp only at hSw); go_simp; all_goals (with_reducible rfl)
              simp only [Act.put, List.setIfInBounds_toArray, List.set_cons_zero, List.set_cons_succ]
              refine wpAnyE_takeW (i := 4) (d := some 165) (v := ?_) rfl rfl (by kernel_rfl) (by kernel_rfl) (by kernel_rfl) rfl (fun _ _ _ h => h) (Or.inl ⟨by rfl, ?_⟩) ?_
              rotate_left
              · intro w hSw; (try dsimp only at hSw); go_simp; all_goals (with_reducible rfl)
              simp only [Act.put, List.setIfInBounds_toArray, List.set_cons_zero, List.set_cons_succ]
              refine wpAnyE_takeW (i := 5) (d := some 166) (v := ?_) rfl rfl (by kernel_rfl) (by kernel_rfl) (by kernel_rfl) rfl (fun _ _ _ h => h) (Or.inl ⟨by rfl, ?_⟩) ?_
              rotate_left
              · intro w hSw; (try dsimp only at hSw); go_simp; all_goals (with_reducible rfl)
              simp only [Act.put, List.setIfInBounds_toArray, List.set_cons_zero, List.set_cons_succ]
              refine wpAnyE_ready (rs := [6]) (by kernel_rfl) (by simp) ?_
              refine AllE.cons rfl (fun K hK => ?_) AllE.nil
              go_simp
              refine (held_any db cb how _ _ _ _ HD7.out).mono ?_
              rintro e w' ⟨rfl, hww⟩
              obtain rfl := hww.symm
              go_wp2_with fail
              refine hK.out _ _ (fun _ => trivial) ?_
              clear hK K
              try simp only [Act.put, List.setIfInBounds_toArray, List.set_cons_zero, List.set_cons_succ]
              refine wpAnyE_takeW (i := 7) (d := some 168) (v := ?_) rfl rfl (by kernel_rfl) (by kernel_rfl) (by kernel_rfl) rfl (fun _ _ _ h => h) (Or.inl ⟨by rfl, ?_⟩) ?_
              rotate_left
              · intro w hSw; (try dsimp only at hSw); go_simp; all_goals (with_reducible rfl)
              simp only [Act.put, List.setIfInBounds_toArray, List.set_cons_zero, List.set_cons_succ]
              refine wpAnyE_takeW (i := 8) (d := some 169) (v := ?_) rfl rfl (by kernel_rfl) (by kernel_rfl) (by kernel_rfl) rfl (fun _ _ _ h => h) (Or.inl ⟨by rfl, ?_⟩) ?_
              rotate_left
              · intro w hSw; (try dsimp only at hSw); go_simp; all_goals (with_reducible rfl)
              simp only [Act.put, List.setIfInBounds_toArray, List.set_cons_zero, List.set_cons_succ]
              refine wpAnyE_takeW (i := 9) (d := some 170) (v := ?_) rfl rfl (by kernel_rfl) (by kernel_rfl) (by kernel_rfl) rfl (fun _ _ _ h => h) (Or.inl ⟨by rfl, ?_⟩) ?_
              rotate_left
              · intro w hSw; (try dsimp only at hSw); go_simp; all_goals (with_reducible rfl)
              simp only [Act.put, List.setIfInBounds_toArray, List.set_cons_zero, List.set_cons_succ]
              refine wpAnyE_takeW (i := 10) (d := some 171) (v := ?_) rfl rfl (by kernel_rfl) (by kernel_rfl) (by kernel_rfl) rfl (fun _ _ _ h => h) (Or.inl ⟨by rfl, ?_⟩) ?_
              rotate_left
              · intro w hSw; (try dsimp only at hSw); go_simp; all_goals (with_reducible rfl)
              simp only [Act.put, List.setIfInBounds_toArray, List.set_cons_zero, List.set_cons_succ]
              refine wpAnyE_takeW (i := 11) (d := some 172) (v := ?_) rfl rfl (by kernel_rfl) (by kernel_rfl) (by kernel_rfl) rfl (fun _ _ _ h => h) (Or.inl ⟨by rfl, ?_⟩) ?_
              rotate_left
              · intro w hSw; (try dsimp only at hSw); go_simp; all_goals (with_reducible rfl)
              simp only [Act.put, List.setIfInBounds_toArray, List.set_cons_zero, List.set_cons_succ]
              refine wpAnyE_takeW (i := 12) (d := some 173) (v := ?_) rfl rfl (by kernel_rfl) (by kernel_rfl) (by kernel_rfl) rfl (fun _ _ _ h => h) (Or.inl ⟨by rfl, ?_⟩) ?_
              rotate_left
              · intro w hSw; (try dsimp only at hSw); go_simp; all_goals (with_reducible rfl)
              simp only [Act.put, List.setIfInBounds_toArray, List.set_cons_zero, List.set_cons_succ]
              refine wpAnyE_takeW (i := 13) (d := some 174) (v := ?_) rfl rfl (by kernel_rfl) (by kernel_rfl) (by kernel_rfl) rfl (fun _ _ _ h => h) (Or.inl ⟨by rfl, ?_⟩) ?_
              rotate_left
              · intro w hSw; (try dsimp only at hSw); go_simp; all_goals (with_reducible rfl)
              simp only [Act.put, List.setIfInBounds_toArray, List.set_cons_zero, List.set_cons_succ]
              refine wpAnyE_takeW (i := 14) (d := some 175) (v := undef) rfl rfl (by kernel_rfl) (by kernel_rfl) (by kernel_rfl) rfl (fun _ _ _ h => h) (Or.inr ⟨by rfl, rfl⟩) ?_
              simp only [Act.put, List.setIfInBounds_toArray, List.set_cons_zero, List.set_cons_succ]
              refine wpAnyE_takeW (i := 15) (d := some 176) (v := undef) rfl rfl (by kernel_rfl) (by kernel_rfl) (by kernel_rfl) rfl (fun _ _ _ h => h) (Or.inr ⟨by rfl, rfl⟩) ?_
              simp only [Act.put, List.setIfInBounds_toArray, List.set_cons_zero, List.set_cons_succ]
              refine wpAnyE_takeW (i := 16) (d := some 177) (v := undef) rfl rfl (by kernel_rfl) (by kernel_rfl) (by kernel_rfl) rfl (fun _ _ _ h => h) (Or.inr ⟨by rfl, rfl⟩) ?_
              simp only [Act.put, List.setIfInBounds_toArray, List.set_cons_zero, List.set_cons_succ]
              refine wpAnyE_takeW (i := 17) (d := some 178) (v := undef) rfl rfl (by kernel_rfl) (by kernel_rfl) (by kernel_rfl) rfl (fun _ _ _ h => h) (Or.inr ⟨by rfl, rfl⟩) ?_
              simp only [Act.put, List.setIfInBounds_toArray, List.set_cons_zero, List.set_cons_succ]
              refine wpAnyE_takeW (i := 18) (d := some 179) (v := undef) rfl rfl (by kernel_rfl) (by kernel_rfl) (by kernel_rfl) rfl (fun _ _ _ h => h) (Or.inr ⟨by rfl, rfl⟩) ?_
              simp only [Act.put, List.setIfInBounds_toArray, List.set_cons_zero, List.set_cons_succ]
              refine wpAnyE_takeW (i := 19) (d := some 180) (v := undef) rfl rfl (by kernel_rfl) (by kernel_rfl) (by kernel_rfl) rfl (fun _ _ _ h => h) (Or.inr ⟨by rfl, rfl⟩) ?_
              simp only [Act.put, List.setIfInBounds_toArray, List.set_cons_zero, List.set_cons_succ]
              refine wpAnyE_takeW (i := 20) (d := some 181) (v := undef) rfl rfl (by kernel_rfl) (by kernel_rfl) (by kernel_rfl) rfl (fun _ _ _ h => h) (Or.inr ⟨by rfl, rfl⟩) ?_
              simp only [Act.put, List.setIfInBounds_toArray, List.set_cons_zero, List.set_cons_succ]
              refine wpAnyE_takeW (i := 21) (d := some 182) (v := undef) rfl rfl (by kernel_rfl) (by kernel_rfl) (by kernel_rfl) rfl (fun _ _ _ h => h) (Or.inr ⟨by rfl, rfl⟩) ?_
              simp only [Act.put, List.setIfInBounds_toArray, List.set_cons_zero, List.set_cons_succ]
              refine wpAnyE_takeW (i := 22) (d := some 183) (v := undef) rfl rfl (by kernel_rfl) (by kernel_rfl) (by kernel_rfl) rfl (fun _ _ _ h => h) (Or.inr ⟨by rfl, rfl⟩) ?_
              simp only [Act.put, List.setIfInBounds_toArray, List.set_cons_zero, List.set_cons_succ]
              refine wpAnyE_takeW (i := 23) (d := some 184) (v := undef) rfl rfl (by kernel_rfl) (by kernel_rfl) (by kernel_rfl) rfl (fun _ _ _ h => h) (Or.inr ⟨by rfl, rfl⟩) ?_
              simp only [Act.put, List.setIfInBounds_toArray, List.set_cons_zero, List.set_cons_succ]
              refine wpAnyE_takeW (i := 24) (d := some 185) (v := undef) rfl rfl (by kernel_rfl) (by kernel_rfl) (by kernel_rfl) rfl (fun _ _ _ h => h) (Or.inr ⟨by rfl, rfl⟩) ?_
              simp only [Act.put, List.setIfInBounds_toArray, List.set_cons_zero, List.set_cons_succ]
              refine wpAnyE_takeW (i := 25) (d := some 186) (v := undef) rfl rfl (by kernel_rfl) (by kernel_rfl) (by kernel_rfl) rfl (fun _ _ _ h => h) (Or.inr ⟨by rfl, rfl⟩) ?_
              simp only [Act.put, List.setIfInBounds_toArray, List.set_cons_zero, List.set_cons_succ]
              refine wpAnyE_takeW (i := 26) (d := some 187) (v := undef) rfl rfl (by kernel_rfl) (by kernel_rfl) (by kernel_rfl) rfl (fun _ _ _ h => h) (Or.inr ⟨by rfl, rfl⟩) ?_
              simp only [Act.put, List.setIfInBounds_toArray, List.set_cons_zero, List.set_cons_succ]
              refine wpAnyE_takeW (i := 27) (d := some 188) (v := undef) rfl rfl (by kernel_rfl) (by kernel_rfl) (by kernel_rfl) rfl (fun _ _ _ h => h) (Or.inr ⟨by rfl, rfl⟩) ?_
              simp only [Act.put, List.setIfInBounds_toArray, List.set_cons_zero, List.set_cons_succ]
              refine wpAnyE_takeW (i := 28) (d := some 189) (v := undef) rfl rfl (by kernel_rfl) (by kernel_rfl) (by kernel_rfl) rfl (fun _ _ _ h => h) (Or.inr ⟨by rfl, rfl⟩) ?_
              simp only [Act.put, List.setIfInBounds_toArray, List.set_cons_zero, List.set_cons_succ]
              refine wpAnyE_takeW (i := 29) (d := some 190) (v := undef) rfl rfl (by kernel_rfl) (by kernel_rfl) (by kernel_rfl) rfl (fun _ _ _ h => h) (Or.inr ⟨by rfl, rfl⟩) ?_
              simp only [Act.put, List.setIfInBounds_toArray, List.set_cons_zero, List.set_cons_succ]
              refine wpAnyE_takeW (i := 30) (d := some 191) (v := undef) rfl rfl (by kernel_rfl) (by kernel_rfl) (by kernel_rfl) rfl (fun _ _ _ h => h) (Or.inr ⟨by rfl, rfl⟩) ?_
              simp only [Act.put, List.setIfInBounds_toArray, List.set_cons_zero, List.set_cons_succ]
              refine wpAnyE_takeW (i := 31) (d := some 192) (v := undef) rfl rfl (by kernel_rfl) (by kernel_rfl) (by kernel_rfl) rfl (fun _ _ _ h => h) (Or.inr ⟨by rfl, rfl⟩) ?_
              simp only [Act.put, List.setIfInBounds_toArray, List.set_cons_zero, List.set_cons_succ]
              refine wpAnyE_takeW (i := 32) (d := some 193) (v := undef) rfl rfl (by kernel_rfl) (by kernel_rfl) (by kernel_rfl) rfl (fun _ _ _ h => h) (Or.inr ⟨by rfl, rfl⟩) ?_
              simp only [Act.put, List.setIfInBounds_toArray, List.set_cons_zero, List.set_cons_succ]
              refine wpAnyE_takeW (i := 33) (d := some 194) (v := ?_) rfl rfl (by kernel_rfl) (by kernel_rfl) (by kernel_rfl) rfl (fun _ _ _ h => h) (Or.inl ⟨by rfl, ?_⟩) ?_
              rotate_left
              · intro w hSw; (try dsimp only at hSw); go_simp; all_goals (with_reducible rfl)
              simp only [Act.put, List.setIfInBounds_toArray, List.set_cons_zero, List.set_cons_succ]
              refine wpAnyE_takeW (i := 34) (d := some 195) (v := ?_) rfl rfl (by kernel_rfl) (by kernel_rfl) (by kernel_rfl) rfl (fun _ _ _ h => h) (Or.inl ⟨by rfl, ?_⟩) ?_
              rotate_left
              · intro w hSw; (try dsimp only at hSw); go_simp; all_goals (with_reducible rfl)
              simp only [Act.put, List.setIfInBounds_toArray, List.set_cons_zero, List.set_cons_succ]
              refine wpAnyE_done (by kernel_rfl) ?_ _
              go_wp2
              go_roundw
              case rel => exact ⟨i + 1, s2 ++ p, wb, M, true, rfl, rfl, rfl, rfl, by go_num, by omega, .inr ⟨rfl, _, _, HD7.out⟩, HB7.out⟩
              case measure => simp [intOf]; omega
          · have HDEC := Lib.hid hdec; clear hdec
            go_wp2_with (go_at_call 20; refine (stepOver_any db cb how held p at2 _ HDEC.out).mono ?_; rintro e w' ⟨rfl, hww⟩; obtain rfl := hww.symm)
            go_roundw
            case rel => exact ⟨i + 1, s2, t, m, true, rfl, rfl, rfl, rfl, by go_num, by omega, .inr ⟨rfl, held, at2, HDEC.out⟩, HBR.out⟩
            case measure => simp [intOf]; omega
        · obtain ⟨held, at2, cl2, hdec⟩ : ∃ held at2 cl2, DecB wr db cb how held at2 cl2 := by
            rcases hst with ⟨-, held, x, -, -, -, -, -, h, -⟩ | ⟨-, held, at2, h⟩
            · exact ⟨_, _, _, h⟩
            · exact ⟨_, _, _, h⟩
          have hdl : db ≤ wr.heap.size := by have := HBR.out.size; rw [HDB.out] at this; exact this
          clear hst
          have HDEC := Lib.hid hdec; clear hdec
          go_wp2_with fail
          refine (reset_any db cb how _ _ _ wr HDEC.out).mono ?_
          rintro e W5 ⟨rfl, hd5, hk5⟩
          have HD5 := Lib.hid hd5
          have HB5 := Lib.hid (show Below db w3 W5 from HBR.out.trans (hk5.below hdl (fun j e => by omega)))
          have hs5 := hk5.size
          have HC5 := Lib.hid (show ChLow W5 cb (psOf rs) db from HC3.out.below HB5.out)
          clear hd5 hk5
          go_wp2_with fail
          refine (step_any db cb how ⟨#[]⟩ 0 (psOf rs) ⟨#[]⟩ W5 HD5.out HC5.out HPS.out (by decide) (by decide)).mono ?_
          rintro e W6 ⟨v6, x6, hx6, rfl, hf6, hd6, hk6⟩
          obtain rfl : (⟨[], [], [], 0, false, 0⟩ : StepA) = x6 := (stepP_nil (psOf rs) how 0).symm.trans hx6
          obtain ⟨va, vcap, rfl, -⟩ := ownsRow_shapeN hf6
          have HD6 := Lib.hid hd6
          have HB6 := Lib.hid (show Below db w3 W6 from HB5.out.trans (hk6.below (by omega) (fun j e => by omega)))
          have HT6 := Lib.hid (HT3.out.below HB6.out HDB.out.symm)
          have HB7 := Lib.hid (HB3.out.trans (HB6.out.mono (by rw [← HDB.out]; exact HB3.out.size)))
          clear hx6 hf6 hd6 hk6
          go_wp2_with (first
            | (go_at_call 21; refine (at_any db cb how _ _ _ _ HD6.out).mono ?_; rintro e w' ⟨rfl, hww⟩; obtain rfl := hww.symm)
            | (go_at_call 22; refine (held_any db cb how _ _ _ _ HD6.out).mono ?_; rintro e w' ⟨rfl, hww⟩; obtain rfl := hww.symm)
            | (go_at_call 11; refine (awake_any _ HT6.out).mono ?_; rintro e w' ⟨rfl, hb⟩; replace hb := Lib.hid (HB7.out.trans (hb.mono HB7.out.size))))
          go_ret
          exact ⟨rfl, hb.out⟩

end Go.Proofs.YtplobpelhcagpaaDoor
