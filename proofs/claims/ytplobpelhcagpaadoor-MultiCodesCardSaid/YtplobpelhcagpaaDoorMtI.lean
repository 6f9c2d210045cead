/-
  Multi: the walk of MultiCodes.
-/
import Derived.Test.YtplobpelhcagpaaDoorMtC
import Derived.Test.YtplobpelhcagpaaDoorMtE
namespace Go.Proofs.YtplobpelhcagpaaDoor
open Go.RowKit Go.Shelf Pl14

theorem RdS.two {w W : World} {T : TypeId} {s t : ByteArray} (hW : w.alloc (.cells #[.string s, .string t] T) = W) : RdS W (.slice (some ⟨w.heap.size, 0, none⟩) 2 2) [s, t] ∧ Below w.heap.size w W ∧ w.heap.size < W.heap.size := by
  subst hW
  refine ⟨⟨_, 2, rfl, Nat.le_refl _, by decide, (fun h => by cases h), .inr ⟨_, 0, rfl, fun j hj => ?_⟩⟩, (Below.refl _ _).alloc (Nat.le_refl _) _, by simp⟩
  have h0 : j = 0 ∨ j = 1 := by simp at hj; omega
  rcases h0 with rfl | rfl
  · exact ((Blk.new w #[.string s, .string t] T).cell (0 + 0)).trans rfl
  · exact ((Blk.new w #[.string s, .string t] T).cell (0 + 1)).trans rfl
/-- codes of rows, by their numbers -/
def pickC (rs : List MRow) (which : List Int) : List CT := which.filterMap (fun (k : Int) => if 0 ≤ k ∧ k < rs.length ∧ (rs.getD k.toNat mr0).2.2 ≠ 1 then some ((rs.getD k.toNat mr0).1, (rs.getD k.toNat mr0).2.1) else none)
theorem pickC_mem {rs : List MRow} {which : List Int} : ∀ p ∈ pickC rs which, p ∈ psOf rs := by
  intro p hp
  obtain ⟨k, -, hk⟩ := List.mem_filterMap.1 hp
  by_cases hc : 0 ≤ k ∧ k < rs.length ∧ (rs.getD k.toNat mr0).2.2 ≠ 1
  · rw [if_pos hc] at hk
    obtain rfl := Option.some.inj hk
    exact mem_psOf (getD_mem (by omega)) hc.2.2
  · rw [if_neg hc] at hk; cases hk
theorem pickC_take (rs : List MRow) (which : List Int) (i : Nat) (h : i < which.length) : pickC rs (which.take (i + 1)) = pickC rs (which.take i) ++ pickC rs [which.getD i 0] := by
  rw [List.take_succ_eq_append_getElem h]
  have e : which.getD i 0 = which[i] := by simp [List.getD_eq_getElem?_getD, h]
  rw [e]
  unfold pickC
  rw [List.filterMap_append]
theorem stepP_bound (ps : List CT) (how : Int) : ∀ (k : Nat) (h : Bytes) (at_ : Nat), h.length ≤ k → (∀ f ∈ (stepP ps how h at_).fs, 0 ≤ f.1 ∧ f.1 ≤ ((at_ + h.length : Nat) : Int)) ∧ (stepP ps how h at_).at_ ≤ at_ + h.length := by
  intro k
  induction k with
  | zero =>
    intro h at_ hk
    obtain rfl : h = [] := by simpa using hk
    rw [stepP_nil]; simp
  | succ k ih =>
    intro h at_ hk
    by_cases h0 : h = []
    · subst h0; rw [stepP_nil]; simp
    have hpos : 0 < h.length := List.length_pos_iff.2 h0
    obtain ⟨n, t, er, hn⟩ : ∃ n t er, nextP ps h = (n, t, er) := ⟨_, _, _, rfl⟩
    rcases nextP_cases ps h hn with ⟨rfl, a, b, c⟩ | ⟨rfl, rfl, rfl⟩ | ⟨rfl, rfl, rfl⟩
    · have := ih (h.drop n) (at_ + n) (by rw [List.length_drop]; omega)
      rw [stepP_ok hn]
      rw [List.length_drop, show at_ + n + (h.length - n) = at_ + h.length by omega] at this
      simpa [StepA.pre] using this
    · rw [stepP_more hn]; simp
    · rw [stepP_bad h0 hn]
      by_cases e2 : how = 1
      · rw [if_pos e2]; simp; omega
      · rw [if_neg e2]
        have := ih (h.drop 1) (at_ + 1) (by rw [List.length_drop]; omega)
        rw [List.length_drop, show at_ + 1 + (h.length - 1) = at_ + h.length by omega] at this
        refine ⟨fun f hf => ?_, this.2⟩
        rcases List.mem_append.1 hf with hf | hf
        · obtain rfl : f = ((at_ : Int), 1) := by simpa using hf
          simp; omega
        · exact this.1 f hf
theorem allP_bound (ps : List CT) (how : Int) (h : Bytes) (at_ : Nat) : ∀ f ∈ (allP ps how h at_).2.1, 0 ≤ f.1 ∧ f.1 ≤ ((at_ + h.length : Nat) : Int) := by
  have hb := stepP_bound ps how h.length h at_ (Nat.le_refl _)
  unfold allP
  generalize stepP ps how h at_ = x at hb ⊢
  intro f hf
  by_cases hx : x.er = 0
  · simp only [hx, if_true] at hf
    rcases List.mem_append.1 hf with hf | hf
    · exact hb.1 f hf
    · unfold flushP at hf
      by_cases h1 : x.held = []
      · simp [h1] at hf
      · have hf' : f = ((x.at_ : Int), (x.held.length : Int)) := by
          by_cases h2 : how = 1
          · simpa [h1, h2] using hf
          · simpa [h1, h2] using hf
        subst hf'
        have := hb.2
        simp only; omega
  · simp only [if_neg hx] at hf
    exact hb.1 f hf
theorem shF_getD (d : Nat) (fs : List (Int × Int)) (j : Nat) (hj : j < fs.length) : (shF d fs).getD j (0, 0) = ((fs.getD j (0, 0)).1 + (d : Int), (fs.getD j (0, 0)).2) := by
  simp [shF, List.getD_eq_getElem?_getD, hj]
def codesB (cs : List CT) : Bytes := (cs.map (·.1.data.toList)).flatten
def textsB (cs : List CT) : Bytes := (cs.map (·.2.data.toList)).flatten
theorem allP_nil (ps : List CT) (how : Int) (at_ : Nat) : allP ps how [] at_ = ([], [], 0) := by unfold allP; rw [stepP_nil]; simp [flushP]

set_option maxRecDepth 100000 in
set_option maxHeartbeats 16000000 in
theorem codes_walk (vl vw : Value) (rs : List MRow) (which : List Int) (more : ByteArray) (w : World) (hl : RdM w vl rs) (hw : Rd .i64 w vw which) (hT : TabsAt w) : Calls Tryd.prog 4 #[vl, vw, .string more] w fun e w' => e = .returned (.bool true) ∧ Below w.heap.size w w' := by
  have HL := Lib.hid hl
  have HW := Lib.hid hw
  have HT := Lib.hid hT; clear hT
  obtain ⟨la, lcap, rfl, hl1, hl2, -, -⟩ := hl
  obtain ⟨wa, wcap, rfl, hw1, hw2, -, -⟩ := hw
  obtain ⟨NL, hNL⟩ : ∃ n, rs.length = n := ⟨_, rfl⟩
  obtain ⟨NW, hNW⟩ : ∃ n, which.length = n := ⟨_, rfl⟩
  rw [hNL] at hl1 HL ⊢
  rw [hNW] at hw1 HW ⊢
  have HNL := Lib.hid hNL; clear hNL
  have HNW := Lib.hid hNW; clear hNW
  go_enter Tryd.func4, Tryd.ntmps4
  go_wp2_with fail
  refine (few_any _ rs w HL.out).mono ?_
  rintro e w1 ⟨⟨b, rfl, hf⟩, hb1⟩
  have HF := Lib.hid hf; clear hf
  have HB1 := Lib.hid hb1; clear hb1
  have HT1 := Lib.hid (HT.out.below HB1.out rfl)
  cases b with
  | false =>
    go_wp2_with (go_at_call 11; refine (awake_any _ HT1.out).mono ?_; rintro e w' ⟨rfl, hb⟩; replace hb := Lib.hid (HB1.out.trans (hb.mono HB1.out.size)))
    go_ret
    exact ⟨rfl, hb.out⟩
  | true =>
    have HF2 := Lib.hid (HF.out rfl); clear HF
    by_cases hn : 20 < NW
    · go_wp2_with (go_at_call 11; refine (awake_any _ HT1.out).mono ?_; rintro e w' ⟨rfl, hb⟩; replace hb := Lib.hid (HB1.out.trans (hb.mono HB1.out.size)))
      go_ret
      exact ⟨rfl, hb.out⟩
    by_cases hs : 100 < more.size
    · go_wp2_with (go_at_call 11; refine (awake_any _ HT1.out).mono ?_; rintro e w' ⟨rfl, hb⟩; replace hb := Lib.hid (HB1.out.trans (hb.mono HB1.out.size)))
      go_ret
      exact ⟨rfl, hb.out⟩
    go_wp2_with (go_at_call 13; refine (small_any _).mono ?_; rintro e w' ⟨rfl, rfl⟩)
    refine (charNew_any _ rs w1 (HL.out.mono HB1.out rfl) HT1.out (by have := HF2.out.1; omega) HF2.out.texts).mono ?_
    rintro e w2 ⟨p, at_, er, rfl, hor, hb2⟩
    have HB2 := Lib.hid (HB1.out.trans (hb2.mono HB1.out.size))
    have HT2 := Lib.hid (HT1.out.below hb2 rfl)
    clear hb2
    rcases hor with ⟨rfl, hok, cb, tm, hm, c0, c2, c5, c6, B, rfl, hcs, -⟩ | ⟨her, rfl, -⟩
    case inr =>
      have e0 : (er != 0) = true := by simpa using her
      clear her
      go_wp2_with (go_at_call 11; refine (awake_any _ HT2.out).mono ?_; rintro e w' ⟨rfl, hb⟩; replace hb := Lib.hid (HB2.out.trans (hb.mono HB2.out.size)))
      go_ret
      exact ⟨rfl, hb.out⟩
    have hlt := hcs.lt
    have HFREE := Lib.hid (preFree_of hok); clear hok
    have HPS := Lib.hid (show textsLe (psOf rs) from HF2.out.le)
    have HC2 := Lib.hid (show ChLow w2 cb (psOf rs) w2.heap.size from ⟨tm, hm, c0, _, c2, c5, c6, B, hcs, hlt.1, hlt.2.1, hlt.2.2⟩)
    clear hcs hlt HT1 HB1
    have HL2 := Lib.hid (HL.out.mono HB2.out rfl)
    have HW2 := Lib.hid (HW.out.mono HB2.out rfl)
    clear HL HW HT
    have HLEN := Lib.hid (show NL ≤ 40 ∧ ∀ r ∈ rs, r.1.size ≤ 200 ∧ r.2.1.size ≤ 200 from by rw [← HNL.out]; exact HF2.out)
    go_wp2
    go_loopw [10, 11, 12] (fun s10 s11 s12 wr => ∃ (i : Nat) (s t : ByteArray), s10 = .string s ∧ s11 = .string t ∧ s12 = .int .i64 i ∧ i ≤ NW ∧ s.size ≤ 200 * i ∧ t.size ≤ 200 * i ∧ (s.data.toList = codesB (pickC rs (which.take i)) ∧ t.data.toList = textsB (pickC rs (which.take i))) ∧ w2 = wr) (fun _ _ s12 _ => NW - (intOf s12).toNat)
    case atStart => exact ⟨0, _, _, rfl, rfl, rfl, Nat.zero_le _, Nat.le_refl _, Nat.le_refl _, ⟨rfl, rfl⟩, (by first | rfl | trivial)⟩
    case round =>
      obtain ⟨i, s, t, rfl, rfl, rfl, hi, hsz, htz, hst, rfl⟩ := hrel
      have HST := Lib.hid hst; clear hst
      by_cases hlt : i < NW
      · have hiw : i < which.length := by rw [HNW.out]; exact hlt
        obtain ⟨k, hk⟩ : ∃ k, which.getD i 0 = k := ⟨_, rfl⟩
        have HTK := Lib.hid (show pickC rs (which.take (i + 1)) = pickC rs (which.take i) ++ pickC rs [k] from by rw [← hk]; exact pickC_take rs which i hiw)
        obtain ⟨wb, wo, rfl, cw⟩ : ∃ b o, wa = some ⟨b, o, none⟩ ∧ w2.cell? ⟨b, o + i, none⟩ = some (.int .i64 k) := by
          obtain ⟨a', c', hv, -, -, -, h3⟩ := HW2.out
          cases hv
          rcases h3 with h3 | ⟨b, o, ha, hc⟩
          · rw [h3] at hiw; simp at hiw
          · exact ⟨b, o, ha, by rw [← hk]; exact hc i hiw⟩
        obtain ⟨q, hq⟩ : ∃ q : Nat, i + 1 = q := ⟨_, rfl⟩
        rw [hq] at HTK
        have HQ := Lib.hid hq; clear hq hk hiw
        have HSAME := Lib.hid (show pickC rs [k] = [] → s.data.toList = codesB (pickC rs (which.take q)) ∧ t.data.toList = textsB (pickC rs (which.take q)) from by
          intro h
          rw [HTK.out, h, List.append_nil]
          exact HST.out)
        by_cases k0 : 0 ≤ k
        · by_cases k1 : k < (NL : Int)
          · obtain ⟨m, rfl⟩ : ∃ m : Nat, k = m := ⟨k.toNat, by omega⟩
            have hmr : m < rs.length := by rw [HNL.out]; omega
            obtain ⟨lb, lo, rfl, d0, d1, d2⟩ := HL2.out.at hmr
            obtain ⟨r, hr⟩ : ∃ r, rs.getD m mr0 = r := ⟨_, rfl⟩
            rw [hr] at d0 d1 d2
            have HMS := Lib.hid (HLEN.out.2 r (by rw [← hr]; exact getD_mem hmr))
            have HPK := Lib.hid (show pickC rs [(m : Int)] = if r.2.2 ≠ 1 then [(r.1, r.2.1)] else [] from by
              rw [← hr]
              have e2 : (m : Int).toNat = m := by omega
              have e3 : (m : Int) < (rs.length : Int) := by omega
              unfold pickC
              rw [List.filterMap_cons]
              by_cases hx : (rs.getD m mr0).2.2 = 1
              · rw [if_neg (by rw [e2]; exact fun h => h.2.2 hx), if_neg (by simpa using hx)]; rfl
              · rw [if_pos ⟨k0, e3, by rw [e2]; exact hx⟩, if_pos hx, e2]; rfl)
            clear hr hmr
            obtain ⟨rc, rt, rf⟩ := r
            simp only at d0 d1 d2
            by_cases h1 : rf = 1
            · have e1 : (rf != 1) = false := by simp [h1]
              have HG := Lib.hid (HSAME.out (by rw [HPK.out]; simp [h1])); clear HSAME HPK HMS
              go_wp2
              go_roundw
              case rel => exact ⟨q, s, t, rfl, rfl, by rw [← HQ.out]; go_num, by have := HQ.out; omega, by have := HQ.out; omega, by have := HQ.out; omega, HG.out, (by first | rfl | trivial)⟩
              case measure => have := HQ.out; simp [intOf]; omega
            · have e1 : (rf != 1) = true := by simp [h1]
              have HG := Lib.hid (show (s ++ rc).data.toList = codesB (pickC rs (which.take q)) ∧ (t ++ rt).data.toList = textsB (pickC rs (which.take q)) from by
                rw [HTK.out, HPK.out, if_pos h1]
                simp [codesB, textsB, HST.out])
              have hrs1 : rc.size ≤ 200 := HMS.out.1
              have hrs2 : rt.size ≤ 200 := HMS.out.2
              clear HSAME HPK h1
              have hcat : ¬ 9223372036854775807 < s.size + rc.size := by omega
              have hcat2 : ¬ 9223372036854775807 < t.size + rt.size := by omega
              go_wp2
              go_roundw
              case rel => exact ⟨q, s ++ rc, t ++ rt, rfl, rfl, by rw [← HQ.out]; go_num, by have := HQ.out; omega, by rw [ByteArray.size_append]; have := HQ.out; omega, by rw [ByteArray.size_append]; have := HQ.out; omega, HG.out, (by first | rfl | trivial)⟩
              case measure => have := HQ.out; simp [intOf]; omega
          · have HG := Lib.hid (HSAME.out (by unfold pickC; rw [List.filterMap_cons, if_neg (by rw [HNL.out]; exact fun h => k1 h.2.1)]; rfl)); clear HSAME
            go_wp2
            go_roundw
            case rel => exact ⟨q, s, t, rfl, rfl, by rw [← HQ.out]; go_num, by have := HQ.out; omega, by have := HQ.out; omega, by have := HQ.out; omega, HG.out, (by first | rfl | trivial)⟩
            case measure => have := HQ.out; simp [intOf]; omega
        · have HG := Lib.hid (HSAME.out (by unfold pickC; rw [List.filterMap_cons, if_neg (fun h => k0 h.1)]; rfl)); clear HSAME
          go_wp2
          go_roundw
          case rel => exact ⟨q, s, t, rfl, rfl, by rw [← HQ.out]; go_num, by have := HQ.out; omega, by have := HQ.out; omega, by have := HQ.out; omega, HG.out, (by first | rfl | trivial)⟩
          case measure => have := HQ.out; simp [intOf]; omega
      · have hiN : i = NW := by omega
        obtain ⟨cs, hcs⟩ : ∃ cs, pickC rs (which.take i) = cs := ⟨_, rfl⟩
        have HCS := Lib.hid (show ∀ p ∈ cs, p ∈ psOf rs from by rw [← hcs]; exact pickC_mem)
        rw [hcs] at HST
        clear hcs HL2 HW2 HLEN
        have hs4 : s.size ≤ 4000 := by omega
        have ht4 : t.size ≤ 4000 := by omega
        obtain ⟨ps, hpsd⟩ : ∃ ps, psOf rs = ps := ⟨_, rfl⟩
        rw [hpsd] at HCS HFREE HPS HC2
        clear hsz htz hpsd hiN
        have HA1 := Lib.hid (show ∀ how, decP ps how [s] = (t.data.toList, [], 0) from by
          intro how
          have := HFREE.out.all how cs HCS.out []
          rw [decP_one, HST.out.1, HST.out.2]
          rw [List.append_nil, allP_nil] at this
          rw [codesB, this]
          simp [textsB, shF])
        have HA2 := Lib.hid (show ∀ how, decP ps how [s, more] = (t.data.toList ++ (decP ps how [more]).1, shF s.size (decP ps how [more]).2.1, (decP ps how [more]).2.2) from by
          intro how
          have := HFREE.out.all how cs HCS.out more.data.toList
          rw [decP_one, decP_all, show catB [s, more] = s.data.toList ++ more.data.toList by simp [catB], HST.out.1, HST.out.2, codesB, this, size_toList, HST.out.1]
          rfl)
        go_wp2
        go_loopw [13] (fun s13 wr => ∃ how : Nat, s13 = .int .i64 how ∧ 1 ≤ how ∧ how ≤ 4 ∧ Below w2.heap.size w2 wr) (fun s13 _ => 4 - (intOf s13).toNat)
        case atStart => exact ⟨1, rfl, by omega, by omega, Below.refl _ _⟩
        case round =>
          obtain ⟨how, rfl, hh1, hh2, hbr⟩ := hrel
          have HBR := Lib.hid hbr; clear hbr
          by_cases hlt2 : how ≤ 3
          · have hhow : HowOk (how : Int) := by unfold HowOk; omega
            have HHOW := Lib.hid hhow; clear hhow
            have h3i : (how : Int) ≤ 3 := by omega
            have HCR := Lib.hid ((HC2.out.below HBR.out).mono HBR.out.size)
            obtain ⟨W3, hW3⟩ : ∃ W, wr.alloc (.cells #[.string s] 9) = W := ⟨_, rfl⟩
            obtain ⟨hr3, hb3, hz3⟩ := RdS.one hW3
            have HC3 := Lib.hid ((HCR.out.below hb3).mono (Nat.le_of_lt hz3))
            have HR3 := Lib.hid hr3
            have HB3 := Lib.hid (HBR.out.trans (hb3.mono HBR.out.size))
            clear hr3 hb3 hz3 hlt2
            go_wp2_with fail
            refine (decode_r cb how ps _ [s] W3 HC3.out HR3.out HPS.out (by simp [totB]; omega) HHOW.out).mono ?_
            rw [HA1.out]
            rintro e w4 ⟨⟨s4, a4, cap4, rfl, hs4', hf4⟩, hb4⟩
            obtain rfl : s4 = t := bytes_eq hs4'
            have HB4 := Lib.hid (HB3.out.trans (hb4.mono HB3.out.size))
            have HC4 := Lib.hid ((HC3.out.below hb4).mono hb4.size)
            clear hb4 hf4 hs4' HB3 HC3 HR3 HCR
            obtain ⟨W5, hW5⟩ : ∃ W, w4.alloc (.cells #[.string s, .string more] 9) = W := ⟨_, rfl⟩
            obtain ⟨hr5, hb5, hz5⟩ := RdS.two hW5
            have HC5 := Lib.hid ((HC4.out.below hb5).mono (Nat.le_of_lt hz5))
            have HR5 := Lib.hid hr5
            have HB5 := Lib.hid (HB4.out.trans (hb5.mono HB4.out.size))
            clear hr5 hb5 hz5 HC4 HB4
            obtain ⟨Y, hY⟩ : ∃ Y, decP ps how [more] = Y := ⟨_, rfl⟩
            have HY0 := Lib.hid (show Y = allP ps how more.data.toList 0 from by rw [← hY, decP_one])
            have HLY := Lib.hid (show Y.1.length ≤ 300000 * 100 ∧ Y.2.1.length ≤ 100 ∧ ∀ f ∈ Y.2.1, 0 ≤ f.1 ∧ f.1 ≤ 1000 from by
              rw [HY0.out]
              have h1 := allP_len ps how more.data.toList 0 HPS.out
              have h2 := allP_bound ps how more.data.toList 0
              rw [← size_toList] at h1 h2
              refine ⟨by have := h1.1; omega, by have := h1.2; omega, fun f hf => ?_⟩
              have := h2 f hf
              omega)
            obtain ⟨v, fk, er⟩ := Y
            have HA2H := Lib.hid (show decP ps how [s, more] = (s4.data.toList ++ v, shF s.size fk, er) from by rw [HA2.out, hY])
            have HYH := Lib.hid hY
            clear hY HY0
            go_wp2_with fail
            refine (decode_r cb how ps _ [s, more] W5 HC5.out HR5.out HPS.out (by simp [totB]; omega) HHOW.out).mono ?_
            rw [HA2H.out]
            rintro e w6 ⟨⟨s6, a6, cap6, rfl, hs6, hf6⟩, hb6⟩
            simp only at hs6 hf6 ⊢
            have HB6 := Lib.hid (HB5.out.trans (hb6.mono HB5.out.size))
            have HC6 := Lib.hid ((HC5.out.below hb6).mono hb6.size)
            have HF6 := Lib.hid hf6
            have HS6 := Lib.hid hs6
            clear hs6 hf6 hb6 HB5 HC5 HR5 hW5
            obtain ⟨W7, hW7⟩ : ∃ W, w6.alloc (.cells #[.string more] 9) = W := ⟨_, rfl⟩
            obtain ⟨hr7, hb7, hz7⟩ := RdS.one hW7
            have HC7 := Lib.hid ((HC6.out.below hb7).mono (Nat.le_of_lt hz7))
            have HR7 := Lib.hid hr7
            have HB7 := Lib.hid (HB6.out.trans (hb7.mono HB6.out.size))
            have HF7 := Lib.hid (show OwnF W5.heap.size W7 (.slice a6 (shF s.size fk).length cap6) (shF s.size fk) from ownsRow_below HF6.out hb7 rfl)
            clear hr7 hb7 hz7 HC6 HB6 HF6
            go_wp2_with fail
            refine (decode_r cb how ps _ [more] W7 HC7.out HR7.out HPS.out (by simp [totB]; omega) HHOW.out).mono ?_
            rw [HYH.out]
            rintro e w8 ⟨⟨s8, a8, cap8, rfl, hs8, hf8⟩, hb8⟩
            simp only at hs8 hf8 ⊢
            obtain rfl : s6 = s4 ++ s8 := bytes_eq (by rw [HS6.out, ← hs8]; simp)
            have HB8 := Lib.hid (HB7.out.trans (hb8.mono HB7.out.size))
            have HF8 := Lib.hid (show OwnF W5.heap.size w8 (.slice a6 (shF s.size fk).length cap6) (shF s.size fk) from ownsRow_below HF7.out hb8 rfl)
            have HG8 := Lib.hid hf8
            have hlk : (shF s.size fk).length = fk.length := by simp [shF]
            obtain ⟨K, hK⟩ : ∃ n, fk.length = n := ⟨_, rfl⟩
            rw [hK] at hlk HG8
            rw [hlk] at HF8 ⊢
            try rw [hK]
            have HK := Lib.hid hK
            have hK100 : K ≤ 100 := by rw [← hK]; exact HLY.out.2.1
            have HKS := Lib.hid hlk
            have hs8z : s8.size = v.length := by rw [size_toList, hs8]
            have hcat : ¬ 9223372036854775807 < s4.size + s8.size := by have := HLY.out.1; omega
            clear hs8 hf8 hb8 HB7 HC7 HR7 hW7 HF7 hK hlk hs8z hW3 HS6
            go_wp2
            go_loopw [23] (fun s23 wr => ∃ j : Nat, s23 = .int .i64 j ∧ j ≤ K ∧ Below w8.heap.size w8 wr) (fun s23 _ => K - (intOf s23).toNat)
            case atStart => exact ⟨0, rfl, Nat.zero_le _, Below.refl _ _⟩
            case round =>
              obtain ⟨j, rfl, hj, hbx⟩ := hrel
              have HBX := Lib.hid hbx; clear hbx
              by_cases hjl : j < K
              · have hjk : j < fk.length := by rw [HK.out]; exact hjl
                have hjs : j < (shF s.size fk).length := by rw [HKS.out]; exact hjl
                have hq6 : OwnF W5.heap.size wr (.slice a6 K cap6) (shF s.size fk) := ownsRow_below HF8.out HBX.out rfl
                have hq8 : OwnF W7.heap.size wr (.slice a8 K cap8) fk := ownsRow_below HG8.out HBX.out rfl
                obtain ⟨_, _, e6, -, hc6⟩ := OwnF.shape hq6
                obtain ⟨_, _, e8, -, hc8⟩ := OwnF.shape hq8
                obtain ⟨g6, hg6, c0, c1⟩ := hc6 j hjs
                obtain ⟨g8, hg8, d0, d1⟩ := hc8 j hjk
                have ea6 : a6 = some ⟨g6, 0, none⟩ := by rw [← hg6]; injection e6
                have ea8 : a8 = some ⟨g8, 0, none⟩ := by rw [← hg8]; injection e8
                subst ea6 ea8
                rw [shF_getD _ _ _ hjk] at c0 c1
                obtain ⟨f, hf⟩ : ∃ f, fk.getD j (0, 0) = f := ⟨_, rfl⟩
                have hfb := HLY.out.2.2 f (by rw [← hf]; exact getD_mem hjk)
                rw [hf] at c0 c1 d0 d1
                obtain ⟨f1, f2⟩ := f
                simp only at c0 c1 d0 d1 hfb
                obtain ⟨G, hG⟩ : ∃ G, f1 + (s.size : Int) = G := ⟨_, rfl⟩
                rw [hG] at c0
                have hwr : IntKind.i64.wrap (f1 + (s.size : Int)) = G := by rw [IntWalk.i64_in _ (by omega)]; exact hG
                clear hc6 hc8 hq6 hq8 e6 e8 hg6 hg8 hf hG hjk hjs hfb
                obtain ⟨q, hq⟩ : ∃ q : Nat, j + 1 = q := ⟨_, rfl⟩
                have HQ := Lib.hid hq; clear hq
                go_wp2
                go_quiet (fail)
                go_wp2
                go_roundw
                case rel => exact ⟨q, by rw [← HQ.out]; go_num, by have := HQ.out; omega, HBX.out.drewN _⟩
                case measure => have := HQ.out; simp [intOf]; omega
              · go_wp2
                go_roundw
                case rel => exact ⟨how + 1, by go_num, by omega, by omega, HB8.out.trans (HBX.out.mono HB8.out.size)⟩
                case measure => simp [intOf]; omega
          · have h3i : ¬ (how : Int) ≤ 3 := by omega
            have HTR := Lib.hid (HT2.out.below HBR.out rfl)
            have HB7 := Lib.hid (HB2.out.trans (HBR.out.mono HB2.out.size))
            go_wp2_with (go_at_call 11; refine (awake_any _ HTR.out).mono ?_; rintro e w' ⟨rfl, hb⟩; replace hb := Lib.hid (HB7.out.trans (hb.mono HB7.out.size)))
            go_ret
            exact ⟨rfl, hb.out⟩

end Go.Proofs.YtplobpelhcagpaaDoor
