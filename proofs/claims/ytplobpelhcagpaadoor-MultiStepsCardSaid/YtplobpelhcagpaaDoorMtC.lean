/-
  Multi: the walk of MultiRest.
-/
import Derived.Test.YtplobpelhcagpaaDoorMtB
import Derived.Test.YtplobpelhcagpaaDoorMsR
import Derived.BigQuiet
import Derived.Deep.QuietTactic
namespace Go.Proofs.YtplobpelhcagpaaDoor
open Go.RowKit Go.Shelf Pl14

theorem allP_len (ps : List CT) (how : Int) (s : Bytes) (at_ : Nat) (hps : textsLe ps) : (allP ps how s at_).1.length ≤ 300000 * s.length ∧ (allP ps how s at_).2.1.length ≤ s.length := by
  have h := stepR_inv ps how hps (s.length + 1) [] [] s at_ (stepP ps how s at_) rfl
  unfold allP
  generalize stepP ps how s at_ = x at h ⊢
  obtain ⟨h1, h2, -, -⟩ := h
  simp only [List.length_nil, Nat.zero_add] at h1 h2
  by_cases hx : x.er = 0
  · simp only [hx, if_true]
    unfold flushP
    by_cases h3 : x.held = []
    · simp [h3] at h1 h2 ⊢; omega
    · have hpos := List.length_pos_iff.2 h3
      have hb : (badOf how).length ≤ 3 := by unfold badOf; split <;> simp [badB]
      by_cases h4 : how = 1 <;> simp [h3, h4] <;> omega
  · simp [hx]; omega

theorem RdS.one {w W : World} {T : TypeId} {s : ByteArray} (hW : w.alloc (.cells #[.string s] T) = W) : RdS W (.slice (some ⟨w.heap.size, 0, none⟩) 1 1) [s] ∧ Below w.heap.size w W ∧ w.heap.size < W.heap.size := by
  subst hW
  refine ⟨⟨_, 1, rfl, Nat.le_refl _, by decide, (fun h => by cases h), .inr ⟨_, 0, rfl, fun j hj => ?_⟩⟩, (Below.refl _ _).alloc (Nat.le_refl _) _, by simp⟩
  have h0 : j = 0 := by simpa using hj
  subst h0
  exact ((Blk.new w #[.string s] T).cell (0 + 0)).trans rfl
theorem ChLow.mono {w : World} {cb N N' : Nat} {ps : List CT} (h : ChLow w cb ps N) (hN : N ≤ N') : ChLow w cb ps N' := by
  obtain ⟨tm, hm, c0, c1, c2, c5, c6, B, h, h1, h2, h3⟩ := h
  exact ⟨tm, hm, c0, c1, c2, c5, c6, B, h, by omega, by omega, by omega⟩
theorem extract_mid (b : ByteArray) (i j : Nat) : (b.extract i j).data.toList = (b.data.toList.take j).drop i := by
  rw [ByteArray.data_extract, Array.toList_extract, List.drop_take]
theorem decP_one (ps : List CT) (how : Int) (s : ByteArray) : decP ps how [s] = allP ps how s.data.toList 0 := by rw [decP_all]; simp [catB]
/-- what Decode answers -/
def DecR (B : Nat) (w' : World) (e : Ending) (x : Bytes × List (Int × Int) × Int) : Prop := ∃ s a cap, e = .returned (.tuple #[.string s, .slice a x.2.1.length cap, .int .i64 x.2.2]) ∧ s.data.toList = x.1 ∧ OwnF B w' (.slice a x.2.1.length cap) x.2.1
theorem decode_r (cb : Nat) (how : Int) (ps : List CT) (vp : Value) (parts : List ByteArray) (w : World) (hC : ChLow w cb ps w.heap.size) (hS : RdS w vp parts) (hps : textsLe ps) (htot : totB parts ≤ 200000) (hhow : HowOk how) :
    Calls Tryd.prog 14 #[.pointer (some ⟨cb, 0, none⟩), .int .i64 how, vp] w fun e w' => DecR w.heap.size w' e (decP ps how parts) ∧ Below w.heap.size w w' := by
  refine (decode_any cb how ps vp parts w hC hS hps htot).mono ?_
  rintro e w' (⟨h, -⟩ | ⟨-, s, v, t, fs, er, hx, rfl, hs, hf, hb⟩)
  · exact absurd hhow h
  · obtain ⟨a, cap, rfl, -⟩ := hf.shape
    rw [hx]
    exact ⟨⟨s, a, cap, rfl, hs, hf⟩, hb⟩
set_option maxRecDepth 100000 in
set_option maxHeartbeats 16000000 in
theorem rest_walk (vl : Value) (rs : List MRow) (s : ByteArray) (w : World) (hl : RdM w vl rs) (hT : TabsAt w) : Calls Tryd.prog 5 #[vl, .string s] w fun e w' => e = .returned (.bool true) ∧ Below w.heap.size w w' := by
  have HL := Lib.hid hl; clear hl
  have HT := Lib.hid hT; clear hT
  go_enter Tryd.func5, Tryd.ntmps5
  go_wp2_with fail
  refine (few_any vl rs w HL.out).mono ?_
  rintro e w1 ⟨⟨b, rfl, hf⟩, hb1⟩
  have HF := Lib.hid hf; clear hf
  have HB1 := Lib.hid hb1; clear hb1
  have HT1 := Lib.hid (HT.out.below HB1.out rfl)
  cases b with
  | false =>
    go_wp2_with (go_at_call 11; refine (awake_any _ HT1.out).mono ?_; rintro e w' ⟨rfl, hb⟩; replace hb := Lib.hid (HB1.out.trans (hb.mono HB1.out.size)))
    go_ret
    exact ⟨rfl, hb.out⟩
  | true =>
    have HF2 := Lib.hid (HF.out rfl); clear HF
    by_cases hs : 300 < s.size
    · go_wp2_with (go_at_call 11; refine (awake_any _ HT1.out).mono ?_; rintro e w' ⟨rfl, hb⟩; replace hb := Lib.hid (HB1.out.trans (hb.mono HB1.out.size)))
      go_ret
      exact ⟨rfl, hb.out⟩
    have HS := Lib.hid (show s.data.toList.length = s.size from (size_toList s).symm)
    go_wp2_with (go_at_call 13; refine (small_any _).mono ?_; rintro e w' ⟨rfl, rfl⟩)
    refine (charNew_any vl rs w1 (HL.out.mono HB1.out rfl) HT1.out (by have := HF2.out.1; omega) HF2.out.texts).mono ?_
    rintro e w2 ⟨p, at_, er, rfl, hor, hb2⟩
    have HB2 := Lib.hid (HB1.out.trans (hb2.mono HB1.out.size))
    have HT2 := Lib.hid (HT1.out.below hb2 rfl)
    clear hb2
    rcases hor with ⟨rfl, -, cb, tm, hm, c0, c2, c5, c6, B, rfl, hcs, -⟩ | ⟨her, rfl, -⟩
    case inr =>
      have e0 : (er != 0) = true := by simpa using her
      clear her
      go_wp2_with (go_at_call 11; refine (awake_any _ HT2.out).mono ?_; rintro e w' ⟨rfl, hb⟩; replace hb := Lib.hid (HB2.out.trans (hb.mono HB2.out.size)))
      go_ret
      exact ⟨rfl, hb.out⟩
    have hlt := hcs.lt
    obtain ⟨ps, hps⟩ : ∃ ps, psOf rs = ps := ⟨_, rfl⟩
    have HPS := Lib.hid (show textsLe ps by rw [← hps]; exact HF2.out.le)
    rw [hps] at hcs
    have hc2 : ChLow w2 cb ps w2.heap.size := ⟨tm, hm, c0, _, c2, c5, c6, B, hcs, hlt.1, hlt.2.1, hlt.2.2⟩
    obtain ⟨W3, hW3⟩ : ∃ W, w2.alloc (.cells #[.string s] 9) = W := ⟨_, rfl⟩
    obtain ⟨hr3, hb3, hz3⟩ := RdS.one hW3
    have HC3 := Lib.hid ((hc2.below hb3).mono (Nat.le_of_lt hz3))
    have HR3 := Lib.hid hr3
    have HB3 := Lib.hid (HB2.out.trans (hb3.mono HB2.out.size))
    have HT3 := Lib.hid (HT2.out.below hb3 rfl)
    obtain ⟨sb, hsb⟩ : ∃ q, w2.heap.size = q := ⟨_, rfl⟩
    rw [hsb] at HR3
    clear hcs hlt hc2 hr3 hb3 hz3 hps HB2 HT2 HT1 HB1
    obtain ⟨o2, h2a, h2b, h2c⟩ := all_both ps s.data.toList
    have HSEG := Lib.hid (seg_all ps s.data.toList)
    have HLEN := Lib.hid (allP_len ps 3 s.data.toList 0 HPS.out)
    obtain ⟨A, hA⟩ : ∃ A, allP ps 3 s.data.toList 0 = A := ⟨_, rfl⟩
    rw [hA] at h2a h2b h2c HSEG HLEN
    obtain ⟨o3, fs, e3⟩ := A
    simp only at h2a h2b h2c HSEG HLEN
    subst h2b
    have HA3 := Lib.hid ((decP_one ps 3 s).trans hA)
    have HA2 := Lib.hid ((decP_one ps 2 s).trans h2a)
    have H2C := Lib.hid h2c
    clear hA h2a h2c
    go_wp2_with fail
    refine (decode_r cb 3 ps _ [s] W3 HC3.out HR3.out HPS.out (by simp [totB]; omega) (by unfold HowOk; omega)).mono ?_
    rw [HA3.out]
    rintro e w4 ⟨⟨s4, a4, cap4, rfl, hs4, hf4⟩, hb4⟩
    simp only at hs4 hf4 ⊢
    have HS4 := Lib.hid hs4
    have HB4 := Lib.hid (HB3.out.trans (hb4.mono HB3.out.size))
    have HC4 := Lib.hid ((HC3.out.below hb4).mono hb4.size)
    have HT4 := Lib.hid (HT3.out.below hb4 rfl)
    have HF4 := Lib.hid hf4
    clear hs4 hf4 hb4 HB3 HC3 HT3 HR3 hW3 hsb
    obtain ⟨W5, hW5⟩ : ∃ W, w4.alloc (.cells #[.string s] 9) = W := ⟨_, rfl⟩
    obtain ⟨hr5, hb5, hz5⟩ := RdS.one hW5
    have HC5 := Lib.hid ((HC4.out.below hb5).mono (Nat.le_of_lt hz5))
    have HR5 := Lib.hid hr5
    have HB5 := Lib.hid (HB4.out.trans (hb5.mono HB4.out.size))
    have HT5 := Lib.hid (HT4.out.below hb5 rfl)
    have HF5 := Lib.hid (show OwnF W3.heap.size W5 (.slice a4 fs.length cap4) fs from ownsRow_below HF4.out hb5 rfl)
    clear hr5 hb5 hz5 HC4 HB4 HT4 HF4
    go_wp2_with fail
    refine (decode_r cb 2 ps _ [s] W5 HC5.out HR5.out HPS.out (by simp [totB]; omega) (by unfold HowOk; omega)).mono ?_
    rw [HA2.out]
    rintro e w6 ⟨⟨s6, a6, cap6, rfl, hs6, hf6⟩, hb6⟩
    simp only at hs6 hf6 ⊢
    have HB6 := Lib.hid (HB5.out.trans (hb6.mono HB5.out.size))
    have HC6 := Lib.hid ((HC5.out.below hb6).mono hb6.size)
    have HT6 := Lib.hid (HT5.out.below hb6 rfl)
    have HF6 := Lib.hid (show OwnF W3.heap.size w6 (.slice a4 fs.length cap4) fs from ownsRow_below HF5.out hb6 rfl)
    have HG6 := Lib.hid hf6
    have hl4 : s4.size = o3.length := by rw [size_toList, HS4.out]
    have hl6 : s6.size = s4.size + 3 * fs.length := by rw [size_toList, hs6, H2C.out, hl4]
    have hfl : fs.length ≤ 300 := by have := HLEN.out.2; have := HS.out; omega
    have ho4 : s4.size ≤ 300000 * 300 := by have := HLEN.out.1; have := HS.out; omega
    obtain ⟨M, hM⟩ : ∃ n, fs.length = n := ⟨_, rfl⟩
    rw [hM] at hl6 hfl HF6 HG6
    have HM := Lib.hid hM
    try rw [hM]
    have HL4 := Lib.hid hl4
    clear hs6 hf6 hb6 HB5 HC5 HT5 HF5 HR5 hW5 H2C HLEN hM hl4
    go_wp2
    go_loopw [14, 15, 16] (fun s14 s15 s16 wr => ∃ (k at_ : Nat) (t : ByteArray) (rest : Bytes), s14 = .int .i64 at_ ∧ s15 = .string t ∧ s16 = .int .i64 k ∧ k ≤ M + 1 ∧ (k ≤ M → SegP ps s.data.toList at_ (fs.drop k) rest) ∧ (t.data.toList ++ rest = o3 ∧ (k = M + 1 → rest = [])) ∧ Below w6.heap.size w6 wr) (fun _ _ s16 _ => M + 1 - (intOf s16).toNat)
    case atStart => exact ⟨0, 0, _, o3, rfl, rfl, rfl, Nat.zero_le _, fun _ => HSEG.out, ⟨rfl, fun h => by omega⟩, Below.refl _ _⟩
    case round =>
      obtain ⟨k, at2, t, rest, rfl, rfl, rfl, hk, hseg, hrest, hB⟩ := hrel
      have HSG := Lib.hid hseg; clear hseg
      have HRS := Lib.hid hrest; clear hrest
      have HBR := Lib.hid hB; clear hB
      have htl : t.size + rest.length = s4.size := by rw [HL4.out, ← HRS.out.1, List.length_append, size_toList]
      have HCR := Lib.hid ((HC6.out.below HBR.out).ok)
      by_cases hkM : k ≤ M
      · by_cases hlt : k < M
        · have hkf : k < fs.length := by rw [HM.out]; exact hlt
          have hdr : fs.drop k = fs[k] :: fs.drop (k + 1) := List.drop_eq_getElem_cons hkf
          have hsg := HSG.out hkM
          rw [hdr] at hsg
          obtain ⟨a, l, t0, o, hf, h1, h2, h3, h4, h5, h6⟩ := hsg
          have hgd : fs.getD k (0, 0) = ((a : Int), (l : Int)) := by rw [← hf]; simp [List.getD_eq_getElem?_getD, hkf]
          have hq6 : OwnF W3.heap.size wr (.slice a4 M cap4) fs := ownsRow_below HF6.out HBR.out rfl
          have hq7 : OwnF W5.heap.size wr (.slice a6 M cap6) fs := ownsRow_below HG6.out HBR.out rfl
          obtain ⟨_, _, e6, -, hc6⟩ := OwnF.shape hq6
          obtain ⟨_, _, e7, -, hc7⟩ := OwnF.shape hq7
          clear hq6 hq7
          cases e6
          cases e7
          obtain ⟨g, rfl, c0, c1⟩ := hc6 k hkf
          obtain ⟨g', rfl, c0', c1'⟩ := hc7 k hkf
          rw [hgd] at c0 c1 c0' c1'
          simp only at c0 c1 c0' c1'
          have HSS := Lib.hid (show a + l ≤ s.size from by rw [← HS.out]; exact h3)
          have hals := HSS.out
          have HD := Lib.hid (show decO ps s.data.toList.length (s.extract at2 a).data.toList = some t0 from by rw [extract_mid]; exact h4)
          have HO := Lib.hid h6
          have ht0 : t0.length + o.length = rest.length := by rw [HO.out, List.length_append]
          have HTL := Lib.hid htl
          have HT0 := Lib.hid ht0
          obtain ⟨L, hL⟩ : ∃ L : Int, (l : Int) = L := ⟨_, rfl⟩
          rw [hL] at c1 c1'
          obtain ⟨q, hq⟩ : ∃ q : Nat, a + l = q := ⟨_, rfl⟩
          have hwr : IntKind.i64.wrap ((a : Int) + L) = (q : Int) := by rw [IntWalk.i64_in _ (by omega)]; omega
          have hL1 : ¬ L < 1 := by omega
          have hqs : ¬ s.size < q := by omega
          have has : a ≤ s.size := by omega
          rw [hq] at h5
          have HNX := Lib.hid h5
          have HQ := Lib.hid hq
          clear hc6 hc7 hgd hf hdr h3 h4 h5 h6 hkf htl ht0 hkM hL hals h2 hq
          go_wp2
          go_quiet (fail)
          go_wp2_with fail
          refine (decoded_any cb ps (s.extract at2 a) t0 _ (HCR.out.below ((Below.refl _ _).drewN _) rfl) (by rw [size_toList, extract_mid, List.length_drop, List.length_take, ← size_toList]; omega) HPS.out _ HD.out).mono ?_
          rintro e W4 ⟨⟨u, rfl, hu⟩, hb4⟩
          have d1 : W4.cell? ⟨g, k * 2 + 1, none⟩ = some (.int .i64 L) := (hb4.cell (p := ⟨g, k * 2 + 1, none⟩) (cell_lt c1)).trans c1
          have HB4 := Lib.hid (show Below w6.heap.size w6 W4 from (HBR.out.drewN _).trans (hb4.mono HBR.out.size))
          have hus : u.size = t0.length := by rw [size_toList, hu]
          have HUS := Lib.hid hus
          have hcat : ¬ 9223372036854775807 < t.size + u.size := by have := HTL.out; have := HT0.out; omega
          have HU := Lib.hid hu
          clear hb4 hu hus c0 c1 c0' c1'
          go_wp2
          go_roundw
          case rel =>
            refine ⟨k + 1, q, t ++ u, o, rfl, rfl, by go_num, by omega, fun _ => HNX.out, ⟨?_, fun h => by omega⟩, HB4.out⟩
            rw [← HRS.out.1, HO.out, ← HU.out]
            simp
          case measure => simp [intOf]; omega
        · have hkf : fs.drop k = [] := List.drop_eq_nil_of_le (by rw [HM.out]; omega)
          have hsg := HSG.out hkM
          rw [hkf] at hsg
          obtain ⟨h1, h2⟩ := hsg
          have has : at2 ≤ s.size := by rw [← HS.out]; exact h1
          have HD := Lib.hid (show decO ps s.data.toList.length (s.extract at2 s.size).data.toList = some rest from by rw [extract_drop]; exact h2)
          have HTL := Lib.hid htl
          have hkeq : k = M := by omega
          have HKE := Lib.hid hkeq
          clear hkf h1 h2 htl hkeq
          go_wp2_with fail
          refine (decoded_any cb ps (s.extract at2 s.size) rest _ HCR.out (by rw [size_toList, extract_drop, List.length_drop, ← size_toList]; omega) HPS.out _ HD.out).mono ?_
          rintro e W4 ⟨⟨u, rfl, hu⟩, hb4⟩
          have HB4 := Lib.hid (show Below w6.heap.size w6 W4 from HBR.out.trans (hb4.mono HBR.out.size))
          have hus : u.size = rest.length := by rw [size_toList, hu]
          have hcat : ¬ 9223372036854775807 < t.size + u.size := by have := HTL.out; omega
          have HU := Lib.hid hu
          clear hb4 hu hus
          go_wp2
          go_roundw
          case rel =>
            refine ⟨k + 1, at2, t ++ u, [], rfl, rfl, by go_num, by have := HKE.out; omega, fun h => by have := HKE.out; omega, ⟨?_, fun h => rfl⟩, HB4.out⟩
            rw [← HRS.out.1, ← HU.out]
            simp
          case measure => have := HKE.out; simp [intOf]; omega
      · have hkeq : k = M + 1 := by omega
        have hr := HRS.out.2 hkeq
        have ht := HRS.out.1
        rw [hr, List.append_nil] at ht
        obtain rfl : t = s4 := bytes_eq (ht.trans HS4.out.symm)
        have HTR := Lib.hid (HT6.out.below HBR.out rfl)
        have HB7 := Lib.hid (HB6.out.trans (HBR.out.mono HB6.out.size))
        have HKE := Lib.hid hkeq
        have hkM2 : M < k := by omega
        clear hkeq hr ht htl hkM
        go_wp2_with (go_at_call 11; refine (awake_any _ HTR.out).mono ?_; rintro e w' ⟨rfl, hb⟩; replace hb := Lib.hid (HB7.out.trans (hb.mono HB7.out.size)))
        go_ret
        exact ⟨rfl, hb.out⟩

end Go.Proofs.YtplobpelhcagpaaDoor
