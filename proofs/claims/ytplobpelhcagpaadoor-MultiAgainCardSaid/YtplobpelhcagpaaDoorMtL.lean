/-
  Multi: the walk of MultiAgain.
-/
import Derived.Test.YtplobpelhcagpaaDoorMtJ
namespace Go.Proofs.YtplobpelhcagpaaDoor
open Go.RowKit Go.Shelf Pl14

theorem two_start (d z : Value) : Two 0 d z z #[z, z] := ⟨rfl, fun j h _ => absurd h (Nat.not_lt_zero _), fun _ => rfl, fun j h1 h2 => by
  obtain rfl : j = 1 := by omega
  rfl⟩
theorem getD_mem2 {α : Type} {l : List α} {i : Nat} {d : α} (hi : i < l.length) : l.getD i d ∈ l := by
  rw [List.getD_eq_getElem?_getD, List.getElem?_eq_getElem hi]; simp
theorem below_two {N : Nat} {w : World} {b k b' k' : Nat} {v v' : Value} (hN : N ≤ w.heap.size) (h : N ≤ b) (h' : N ≤ b') : Below N w ((w.setCell ⟨b, k, none⟩ v).setCell ⟨b', k', none⟩ v') :=
  ((Keep.of_setCell w b k v).below hN (fun j e => by omega)).trans ((Keep.of_setCell _ b' k' v').below (Nat.le_trans hN (Keep.of_setCell w b k v).size) (fun j e => by omega))
theorem two_block {w : World} {b : Nat} {cs : Array Value} {T : TypeId} (h : Blk w b cs T) {k : Nat} {v : Value} (hk : cs[k]? = some v) : w.cell? ⟨b, k, none⟩ = some v := (h.cell k).trans hk

set_option maxRecDepth 100000 in
set_option maxHeartbeats 16000000 in
theorem again_walk (vl vp : Value) (rs : List MRow) (parts : List ByteArray) (skip : Bool) (w : World) (hl : RdM w vl rs) (hp : RdS w vp parts) (hn : parts.length ≤ 90000000000000000) (hT : TabsAt w) : Calls Tryd.prog 6 #[vl, vp, .bool skip] w fun e w' => e = .returned (.bool true) ∧ Below w.heap.size w w' := by
  have HL := Lib.hid hl; clear hl
  have HP := Lib.hid hp
  have HT := Lib.hid hT; clear hT
  obtain ⟨pa, pcap, rfl, hp1, hp2, -, -⟩ := hp
  obtain ⟨NP, hNP⟩ : ∃ n, parts.length = n := ⟨_, rfl⟩
  rw [hNP] at hp1 HP hn ⊢
  have HNP := Lib.hid hNP; clear hNP
  go_enter Tryd.func6, Tryd.ntmps6
  go_wp2_with fail
  refine (whole_any _ parts w HP.out (by rw [HNP.out]; exact hn)).mono ?_
  rintro e w0 ⟨⟨s, ok, rfl, hwh⟩, hb0⟩
  have HWH := Lib.hid hwh; clear hwh
  have HB0 := Lib.hid hb0; clear hb0
  go_wp2_with fail
  refine (few_any vl rs w0 (HL.out.mono HB0.out rfl)).mono ?_
  rintro e w1 ⟨⟨b, rfl, hf⟩, hb1⟩
  have HF := Lib.hid hf; clear hf
  have HB1 := Lib.hid (HB0.out.trans (hb1.mono HB0.out.size)); clear hb1
  have HT1 := Lib.hid (HT.out.below HB1.out rfl)
  cases b with
  | false =>
    go_wp2_with (go_at_call 11; refine (awake_any _ HT1.out).mono ?_; rintro e w' ⟨rfl, hb⟩; replace hb := Lib.hid (HB1.out.trans (hb.mono HB1.out.size)))
    go_ret
    exact ⟨rfl, hb.out⟩
  | true =>
    have HF2 := Lib.hid (HF.out rfl); clear HF
    cases ok with
    | false =>
      go_wp2_with (go_at_call 11; refine (awake_any _ HT1.out).mono ?_; rintro e w' ⟨rfl, hb⟩; replace hb := Lib.hid (HB1.out.trans (hb.mono HB1.out.size)))
      go_ret
      exact ⟨rfl, hb.out⟩
    | true =>
      obtain ⟨hcat, hpo⟩ := HWH.out rfl
      have HCAT := Lib.hid hcat; clear hcat
      have HPO := Lib.hid hpo; clear hpo HWH
      go_wp2_with (go_at_call 13; refine (small_any _).mono ?_; rintro e w' ⟨rfl, rfl⟩)
      refine (charNew_any vl rs w1 (HL.out.mono HB1.out rfl) HT1.out (by have := HF2.out.1; omega) HF2.out.texts).mono ?_
      rintro e w2 ⟨p, at_, er, rfl, hor, hb2⟩
      have HB2 := Lib.hid (HB1.out.trans (hb2.mono HB1.out.size))
      have HT2 := Lib.hid (HT1.out.below hb2 rfl)
      clear hb2
      rcases hor with ⟨rfl, hok, cb, tm, hm, c0, c2, c5, c6, B, rfl, hcs, -⟩ | ⟨her, rfl, -⟩
      case inr =>
        have e0 : (er != 0) = true := by simpa using her
        clear her
        go_wp2_with (go_at_call 11; refine (awake_any _ HT2.out).mono ?_; rintro e w' ⟨rfl, hb⟩; replace hb := Lib.hid (HB2.out.trans (hb.mono HB2.out.size)))
        go_ret
        exact ⟨rfl, hb.out⟩
      have hlt := hcs.lt
      obtain ⟨ps, hpsd⟩ : ∃ ps, psOf rs = ps := ⟨_, rfl⟩
      have HPS := Lib.hid (show textsLe ps from by rw [← hpsd]; exact HF2.out.le)
      rw [hpsd] at hcs
      have HC2 := Lib.hid (show ChLow w2 cb ps w2.heap.size from ⟨tm, hm, c0, _, c2, c5, c6, B, hcs, hlt.1, hlt.2.1, hlt.2.2⟩)
      have HP2 := Lib.hid (HP.out.mono HB2.out rfl)
      have HTOT := Lib.hid (show totB parts ≤ 2000 from totB_le HPO.out)
      have HSZ := Lib.hid (show s.size = totB parts from by rw [size_toList, HCAT.out, catB_len])
      clear hcs hlt hok HT1 HB1 HB0 HL HP HT hpsd
      cases skip with
      | _ =>
        go_wp2_with fail
        obtain ⟨how, hhow⟩ : ∃ h : Int, h = 2 ∨ h = 3 := ⟨2, .inl rfl⟩
        have HG : True := trivial
        first
          | (obtain ⟨how, hv, hsoft⟩ : ∃ h : Int, h = 2 ∧ (h = 2 ∨ h = 3) := ⟨2, rfl, .inl rfl⟩
             rw [← hv]
             clear hv
             replace hhow := hsoft)
          | (obtain ⟨how, hv, hsoft⟩ : ∃ h : Int, h = 3 ∧ (h = 2 ∨ h = 3) := ⟨3, rfl, .inr rfl⟩
             rw [← hv]
             clear hv
             replace hhow := hsoft)
        have HSO := Lib.hid hsoft
        clear hsoft hhow HG
        refine (new_any cb how w2).mono ?_
        rintro e w3 (⟨-, rfl, hd3, hb3, hz3⟩ | ⟨hno, -, -⟩)
        case inr => exact absurd (show HowOk how from by unfold HowOk; have := HSO.out; omega) hno
        obtain ⟨db, hdb⟩ : ∃ q, w2.heap.size = q := ⟨_, rfl⟩
        rw [hdb] at hd3 hb3 hz3 HC2
        try rw [hdb]
        have HDB := Lib.hid hdb
        have HD3 := Lib.hid hd3
        have HC3 := Lib.hid (HC2.out.below hb3)
        have HB3 := Lib.hid (show Below db w2 w3 from hb3)
        clear hd3 hb3 hdb
        obtain ⟨tb, htb⟩ : ∃ q, w3.heap.size = q := ⟨_, rfl⟩
        obtain ⟨W5, hW5⟩ : ∃ W, (w3.alloc (.cells #[.string ⟨#[]⟩, .string ⟨#[]⟩] 56)).alloc (.cells #[.int .i64 0, .int .i64 0] 57) = W := ⟨_, rfl⟩
        have hx0 : Blk W5 tb #[.string ⟨#[]⟩, .string ⟨#[]⟩] 56 := by rw [← hW5, ← htb]; exact (Blk.new _ _ _).grown (World.grownBy_alloc _ _ none) (by simp)
        have hx1 : Blk W5 (tb + 1) #[.int .i64 0, .int .i64 0] 57 := by
          have := Blk.new (w3.alloc (.cells #[.string ⟨#[]⟩, .string ⟨#[]⟩] 56)) #[.int .i64 0, .int .i64 0] 57
          rw [hW5] at this
          simpa [htb] using this
        have hb5 : Below tb w3 W5 := by rw [← hW5, ← htb]; exact ((Below.refl _ _).alloc (Nat.le_refl _) _).alloc (by simp) _
        rw [htb] at hz3
        have HX0 := Lib.hid hx0
        have HX1 := Lib.hid hx1
        have HD5 := Lib.hid (HD3.out.below hb5 hz3)
        have HB5 := Lib.hid (HB3.out.trans (hb5.mono (Nat.le_of_lt hz3)))
        have HC5 := Lib.hid (HC3.out.below (hb5.mono (Nat.le_of_lt hz3)))
        have hz5 : W5.heap.size = tb + 2 := by rw [← hW5, ← htb]; simp
        obtain ⟨A, hA⟩ : ∃ A, allP ps how s.data.toList 0 = A := ⟨_, rfl⟩
        have HA := Lib.hid hA
        have HSS := Lib.hid (show s.data.toList.length = totB parts from by rw [← size_toList]; exact HSZ.out)
        clear hx0 hx1 hb5 HD3 HC3 HB3 hA
        obtain ⟨TT, hTT⟩ : ∃ T : Value, T = .string ⟨A.1.toArray⟩ := ⟨_, rfl⟩
        obtain ⟨MM, hMM⟩ : ∃ M : Value, M = .int .i64 A.2.1.length := ⟨_, rfl⟩
        have HTT := Lib.hid hTT; clear hTT
        have HMM := Lib.hid hMM; clear hMM
        go_wp2
        go_loopw [17] (fun s17 wr => ∃ (k : Nat) (cs ds : Array Value), s17 = .int .i64 k ∧ k ≤ 2 ∧ Blk wr tb cs 56 ∧ Blk wr (tb + 1) ds 57 ∧ (Two k TT (.string ⟨#[]⟩) (.string ⟨#[]⟩) cs ∧ Two k MM (.int .i64 0) (.int .i64 0) ds) ∧ DecB wr db cb how ⟨#[]⟩ 0 false ∧ Below db w2 wr) (fun s17 _ => 2 - (intOf s17).toNat)
        case atStart => exact ⟨0, _, _, rfl, Nat.zero_le _, HX0.out, HX1.out, ⟨two_start _ _, two_start _ _⟩, HD5.out, HB5.out⟩
        case round =>
          obtain ⟨k, cs, ds, rfl, hk, hbt, hbm, htw, hdec, hbr⟩ := hrel
          have HBT := Lib.hid hbt; clear hbt
          have HBM := Lib.hid hbm; clear hbm
          have HTW := Lib.hid htw; clear htw
          have HDEC := Lib.hid hdec; clear hdec
          have HBR := Lib.hid hbr; clear hbr
          by_cases hk2 : k < 2
          · go_wp2
            go_loopw [18] (fun s18 wr => ∃ (i : Nat) (o held : ByteArray) (fs : List (Int × Int)) (at2 : Nat) (cs ds : Array Value), s18 = .int .i64 i ∧ i ≤ NP ∧ stepP ps how (catB (parts.take i)) 0 = ⟨o.data.toList, fs, held.data.toList, at2, false, 0⟩ ∧ Blk wr tb cs 56 ∧ Blk wr (tb + 1) ds 57 ∧ (Two k TT (.string o) (.string ⟨#[]⟩) cs ∧ Two k MM (.int .i64 fs.length) (.int .i64 0) ds) ∧ DecB wr db cb how held at2 false ∧ Below db w2 wr) (fun s18 _ => NP - (intOf s18).toNat)
            case atStart => exact ⟨0, ⟨#[]⟩, ⟨#[]⟩, [], 0, cs, ds, rfl, Nat.zero_le _, by rw [List.take_zero]; exact stepP_nil ps how 0, HBT.out, HBM.out, HTW.out, HDEC.out, HBR.out⟩
            case round =>
              obtain ⟨i, o, held, fs, at2, cs2, ds2, rfl, hi, hst, hbt, hbm, htw, hdec, hbr⟩ := hrel
              have HBT2 := Lib.hid hbt; clear hbt
              have HBM2 := Lib.hid hbm; clear hbm
              have HTW2 := Lib.hid htw; clear htw
              have HDEC2 := Lib.hid hdec; clear hdec
              have HBR2 := Lib.hid hbr; clear hbr
              have HST := Lib.hid hst
              have hinv := stepR_inv ps how HPS.out ((catB (parts.take i)).length + 1) [] [] (catB (parts.take i)) 0 _ hst
              rw [catB_len, ← size_toList, ← size_toList] at hinv
              simp only [List.length_nil, Nat.zero_add] at hinv
              have HIN := Lib.hid hinv
              have htl := totB_take_le parts i
              have htt := HTOT.out
              have hheld : held.size ≤ 2000 := by have := HIN.out.2.1; omega
              have hatl : at2 ≤ 2000 := by have := HIN.out.2.2.1; omega
              have hol : o.size ≤ 300000 * 2000 := by have := HIN.out.1; omega
              have hfl : fs.length ≤ 2000 := by have := HIN.out.2.1; omega
              have HCR := Lib.hid (show ChLow _ cb ps db from HC2.out.below HBR2.out)
              clear hst hinv
              by_cases hlt : i < NP
              · have hip : i < parts.length := by rw [HNP.out]; exact hlt
                obtain ⟨b1, o1, rfl, c1⟩ := (HP2.out.mono HBR2.out HDB.out.symm).at hip
                obtain ⟨p, hp⟩ : ∃ p, parts.getD i ByteArray.empty = p := ⟨_, rfl⟩
                rw [hp] at c1
                have HCAT2 := Lib.hid (show catB (parts.take (i + 1)) = catB (parts.take i) ++ p.data.toList from by rw [catB_take _ _ hip, hp])
                have hpz : p.size ≤ 100 := HPO.out.2 p (by rw [← hp]; exact getD_mem2 hip)
                clear hp hip
                go_wp2_with fail
                refine (step_any db cb how held at2 ps p _ HDEC2.out HCR.out HPS.out (by omega) (by omega)).mono ?_
                rintro e W6 ⟨v, x, hx, rfl, hf6, hd6, hk6⟩
                have hso := step_soft ps HSO.out (held.data.toList ++ p.data.toList) at2
                have hon := step_on (p := p.data.toList) HSO.out HST.out
                rw [hx] at hso hon
                obtain ⟨xo, xf, xh, xa, xc, xe⟩ := x
                simp only at hso hon hf6 hd6 ⊢
                obtain ⟨rfl, rfl⟩ := hso
                obtain ⟨va, vcap, rfl, -⟩ := ownsRow_shapeN hf6
                obtain ⟨xb, hxb⟩ : ∃ b : ByteArray, (⟨xo.toArray⟩ : ByteArray) = b := ⟨_, rfl⟩
                have hxl : xb.data.toList = xo := by rw [← hxb]
                rw [hxb]
                have hinv2 := stepR_inv ps how HPS.out ((catB (parts.take i) ++ p.data.toList).length + 1) [] [] (catB (parts.take i) ++ p.data.toList) 0 _ hon
                rw [← HCAT2.out, catB_len] at hinv2
                have htl2 := totB_take_le parts (i + 1)
                simp only [List.length_append, List.length_nil, Nat.zero_add] at hinv2
                have hxz : xb.size ≤ 300000 * 2000 := by rw [size_toList, hxl]; have := hinv2.1; omega
                have hfz2 : xf.length ≤ 2000 := by have := hinv2.2.1; omega
                have HON := Lib.hid (show stepP ps how (catB (parts.take (i + 1))) 0 = ⟨(o ++ xb).data.toList, fs ++ xf, (⟨xh.toArray⟩ : ByteArray).data.toList, xa, false, 0⟩ from by rw [HCAT2.out, hon]; simp [hxl])
                have HBT6 := Lib.hid (HBT2.out.keep hk6 (fun e => by omega))
                have HBM6 := Lib.hid (HBM2.out.keep hk6 (fun e => by omega))
                have HD6 := Lib.hid hd6
                have HB6 := Lib.hid (show Below db w2 W6 from HBR2.out.trans (hk6.below (by have := HBR2.out.size; rw [HDB.out] at this; exact this) (fun j e => by omega)))
                have hz6 : tb + 1 < W6.heap.size := HBM6.out.lt
                have c2 : W6.cell? ⟨tb, k, none⟩ = some (.string o) := two_block HBT6.out (HTW2.out.1.2.2.1 hk2)
                have c3 : W6.cell? ⟨tb + 1, k, none⟩ = some (.int .i64 fs.length) := two_block HBM6.out (HTW2.out.2.2.2.1 hk2)
                have f2 : W6.frozen? ⟨tb, k, none⟩ = false := HBT6.out.frozen k
                have f3 : W6.frozen? ⟨tb + 1, k, none⟩ = false := HBM6.out.frozen k
                have hcat : ¬ 9223372036854775807 < o.size + xb.size := by omega
                obtain ⟨q, hq⟩ : ∃ q : Nat, fs.length + xf.length = q := ⟨_, rfl⟩
                have hqw : IntKind.i64.wrap ((fs.length : Int) + (xf.length : Int)) = (q : Int) := by rw [IntWalk.i64_in _ (by omega)]; omega
                have HQ := Lib.hid hq
                clear hx hon hf6 hd6 hk6 hxb hxl hinv2 hq c1
                go_wp2
                go_roundw
                case rel =>
                  refine ⟨i + 1, o ++ xb, ⟨xh.toArray⟩, fs ++ xf, xa, _, _, by go_num, by omega, HON.out, ((HBT6.out.set k (.string (o ++ xb))).keep (Keep.of_setCell _ _ _ _) (fun e => by omega)), ((HBM6.out.keep (Keep.of_setCell _ tb k (.string (o ++ xb))) (fun e => by omega)).set k (.int .i64 q)), ⟨HTW2.out.1.set hk2 _, ?_⟩, ?_, ?_⟩
                  · have := HTW2.out.2.set hk2 (.int .i64 q)
                    rw [List.length_append, HQ.out]
                    exact this
                  · exact (HD6.out.keep (Keep.of_setCell _ _ _ _) (fun e => by omega)).keep (Keep.of_setCell _ _ _ _) (fun e => by omega)
                  · exact HB6.out.trans (below_two (by omega) (by omega) (by omega))
                case measure => simp [intOf]; omega
              · have hiN : i = NP := by omega
                have HST2 := Lib.hid (show stepP ps how s.data.toList 0 = ⟨o.data.toList, fs, held.data.toList, at2, false, 0⟩ from by
                  have := HST.out
                  rwa [hiN, ← HNP.out, List.take_length, ← HCAT.out] at this)
                have htot : at2 + held.size = s.size := by
                  rcases HIN.out.2.2.2 with ⟨-, -, h⟩ | ⟨h, -⟩
                  · rw [h, HSZ.out, hiN, ← HNP.out, List.take_length]
                  · cases h
                have htw : IntKind.i64.wrap ((at2 : Int) + (held.size : Int)) = (s.size : Int) := by rw [IntWalk.i64_in _ (by omega)]; omega
                have htn : ((at2 + held.size : Nat) : Int) = (s.size : Int) := by omega
                clear hiN
                by_cases hh : held.data.toList = []
                · have HFX := Lib.hid (show flushP how held.data.toList at2 = (([] : Bytes), ([] : List (Int × Int)), 0) from by
                    unfold flushP
                    rw [if_pos hh])
                  have he : held.toList.isEmpty = true := by rw [ByteArray.toList_eq, hh]; rfl
                  clear hh
                  go_wp2_with (first
                    | (go_at_call 21; refine (at_any db cb how held at2 false _ HDEC2.out).mono ?_; rintro e w' ⟨rfl, rfl⟩)
                    | (go_at_call 22; refine (held_any db cb how held at2 false _ HDEC2.out).mono ?_; rintro e w' ⟨rfl, rfl⟩))
                  refine (flush_any db cb how held at2 _ HDEC2.out (by omega) (by omega)).mono ?_
                  rintro e W6 ⟨v, t6, fs6, er6, hx6, rfl, hf6, hd6, hk6⟩
                  rw [HFX.out] at hx6
                  obtain ⟨rfl, rfl, rfl⟩ : ([] : Bytes) = t6 ∧ ([] : List (Int × Int)) = fs6 ∧ (0 : Int) = er6 := by
                    injection hx6 with h1 h2
                    injection h2 with h2 h3
                    exact ⟨h1, h2, h3⟩
                  obtain ⟨va, vcap, rfl, -⟩ := ownsRow_shapeN hf6
                  rw [htn] at hd6
                  have HBT6 := Lib.hid (HBT2.out.keep hk6 (fun e => by omega))
                  have HBM6 := Lib.hid (HBM2.out.keep hk6 (fun e => by omega))
                  have HD6 := Lib.hid hd6
                  have HB6 := Lib.hid (show Below db w2 W6 from HBR2.out.trans (hk6.below (by have := HBR2.out.size; rw [HDB.out] at this; exact this) (fun j e => by omega)))
                  have hz6 : tb + 1 < W6.heap.size := HBM6.out.lt
                  have c2 : W6.cell? ⟨tb, k, none⟩ = some (.string o) := two_block HBT6.out (HTW2.out.1.2.2.1 hk2)
                  have c3 : W6.cell? ⟨tb + 1, k, none⟩ = some (.int .i64 fs.length) := two_block HBM6.out (HTW2.out.2.2.2.1 hk2)
                  have f2 : W6.frozen? ⟨tb, k, none⟩ = false := HBT6.out.frozen k
                  have f3 : W6.frozen? ⟨tb + 1, k, none⟩ = false := HBM6.out.frozen k
                  obtain ⟨tx, htx⟩ : ∃ b : ByteArray, (⟨(([] : Bytes)).toArray⟩ : ByteArray) = b := ⟨_, rfl⟩
                  rw [htx]
                  have HTX := Lib.hid (show tx.data.toList = ([] : Bytes) from by rw [← htx])
                  have htz : tx.size ≤ 3 := by rw [size_toList, HTX.out]; simp
                  have hcat : ¬ 9223372036854775807 < o.size + tx.size := by omega
                  obtain ⟨q, hq⟩ : ∃ q : Nat, fs.length + 0 = q := ⟨_, rfl⟩
                  have hqw : IntKind.i64.wrap ((fs.length : Int) + 0) = (q : Int) := by rw [IntWalk.i64_in _ (by omega)]; omega
                  have HQ := Lib.hid hq
                  have HAT := Lib.hid (show Value.string (o ++ tx) = TT from by
                    rw [HTT.out]
                    congr 1
                    apply bytes_eq
                    rw [← HA.out]
                    unfold allP
                    rw [HST2.out]
                    simp [HFX.out, HTX.out])
                  have HAM := Lib.hid (show Value.int .i64 (q : Int) = MM from by
                    rw [HMM.out, ← HA.out, ← HQ.out]
                    unfold allP
                    rw [HST2.out]
                    simp [HFX.out])
                  have hlen : (([] : List (Int × Int))).length = 0 := rfl
                  try rw [hlen]
                  clear hf6 hd6 hk6 hx6 htx hq
                  go_wp2_with (go_at_call 21; refine (at_any db cb how _ _ _ _ HD6.out).mono ?_; rintro e w' ⟨rfl, hww⟩; obtain rfl := hww.symm)
                  obtain rfl : fs.length = q := by have := HQ.out; omega
                  obtain ⟨W7, hW7⟩ : ∃ W, (W6.setCell ⟨tb, k, none⟩ (.string (o ++ tx))).setCell ⟨tb + 1, k, none⟩ (.int .i64 fs.length) = W := ⟨_, rfl⟩
                  have HD7 := Lib.hid (show DecB W7 db cb how ⟨#[]⟩ (s.size : Int) true from by rw [← hW7]; exact (HD6.out.keep (Keep.of_setCell _ _ _ _) (fun e => by omega)).keep (Keep.of_setCell _ _ _ _) (fun e => by omega))
                  have HBT7 := Lib.hid (show Blk W7 tb (cs2.setIfInBounds k (.string (o ++ tx))) 56 from by rw [← hW7]; exact (HBT6.out.set k (.string (o ++ tx))).keep (Keep.of_setCell _ _ _ _) (fun e => by omega))
                  have HBM7 := Lib.hid (show Blk W7 (tb + 1) (ds2.setIfInBounds k (.int .i64 fs.length)) 57 from by rw [← hW7]; exact (HBM6.out.keep (Keep.of_setCell _ tb k (.string (o ++ tx))) (fun e => by omega)).set k (.int .i64 fs.length))
                  have HB7 := Lib.hid (show Below db w2 W7 from by rw [← hW7]; exact HB6.out.trans (below_two (by omega) (by omega) (by omega)))
                  try rw [hW7]
                  refine (reset_any db cb how _ _ _ W7 HD7.out).mono ?_
                  rintro e W8 ⟨rfl, hd8, hk8⟩
                  have HTW8 := Lib.hid (show Two k TT TT (.string ⟨#[]⟩) (cs2.setIfInBounds k (.string (o ++ tx))) ∧ Two k MM MM (.int .i64 0) (ds2.setIfInBounds k (.int .i64 fs.length)) from by
                    have h1 := HTW2.out.1.set hk2 (.string (o ++ tx))
                    have h2 := HTW2.out.2.set hk2 (.int .i64 fs.length)
                    rw [HAT.out] at h1 ⊢
                    rw [HAM.out] at h2 ⊢
                    exact ⟨h1, h2⟩)
                  have HBT8 := Lib.hid (HBT7.out.keep hk8 (fun e => by omega))
                  have HBM8 := Lib.hid (HBM7.out.keep hk8 (fun e => by omega))
                  have HB8 := Lib.hid (show Below db w2 W8 from HB7.out.trans (hk8.below (by have := HB7.out.size; rw [HDB.out] at this; exact this) (fun j e => by omega)))
                  have HD8 := Lib.hid hd8
                  clear hd8 hk8 hW7
                  go_wp2
                  go_roundw
                  case rel => exact ⟨k + 1, _, _, by go_num, by omega, HBT8.out, HBM8.out, ⟨HTW8.out.1.next, HTW8.out.2.next⟩, HD8.out, HB8.out⟩
                  case measure => simp [intOf]; omega
                · have HFX := Lib.hid (show flushP how held.data.toList at2 = (badOf how, [((at2 : Int), (held.data.toList.length : Int))], 0) from by
                    unfold flushP
                    rw [if_neg hh, if_neg (by have := HSO.out; omega)])
                  have he : held.toList.isEmpty = false := by rw [ByteArray.toList_eq]; cases h : held.data.toList with | nil => exact absurd h hh | cons _ _ => rfl
                  clear hh
                  go_wp2_with (first
                    | (go_at_call 21; refine (at_any db cb how held at2 false _ HDEC2.out).mono ?_; rintro e w' ⟨rfl, rfl⟩)
                    | (go_at_call 22; refine (held_any db cb how held at2 false _ HDEC2.out).mono ?_; rintro e w' ⟨rfl, rfl⟩))
                  refine (flush_any db cb how held at2 _ HDEC2.out (by omega) (by omega)).mono ?_
                  rintro e W6 ⟨v, t6, fs6, er6, hx6, rfl, hf6, hd6, hk6⟩
                  rw [HFX.out] at hx6
                  obtain ⟨rfl, rfl, rfl⟩ : badOf how = t6 ∧ [((at2 : Int), (held.data.toList.length : Int))] = fs6 ∧ (0 : Int) = er6 := by
                    injection hx6 with h1 h2
                    injection h2 with h2 h3
                    exact ⟨h1, h2, h3⟩
                  obtain ⟨va, vcap, rfl, -⟩ := ownsRow_shapeN hf6
                  rw [htn] at hd6
                  have HBT6 := Lib.hid (HBT2.out.keep hk6 (fun e => by omega))
                  have HBM6 := Lib.hid (HBM2.out.keep hk6 (fun e => by omega))
                  have HD6 := Lib.hid hd6
                  have HB6 := Lib.hid (show Below db w2 W6 from HBR2.out.trans (hk6.below (by have := HBR2.out.size; rw [HDB.out] at this; exact this) (fun j e => by omega)))
                  have hz6 : tb + 1 < W6.heap.size := HBM6.out.lt
                  have c2 : W6.cell? ⟨tb, k, none⟩ = some (.string o) := two_block HBT6.out (HTW2.out.1.2.2.1 hk2)
                  have c3 : W6.cell? ⟨tb + 1, k, none⟩ = some (.int .i64 fs.length) := two_block HBM6.out (HTW2.out.2.2.2.1 hk2)
                  have f2 : W6.frozen? ⟨tb, k, none⟩ = false := HBT6.out.frozen k
                  have f3 : W6.frozen? ⟨tb + 1, k, none⟩ = false := HBM6.out.frozen k
                  obtain ⟨tx, htx⟩ : ∃ b : ByteArray, (⟨(badOf how).toArray⟩ : ByteArray) = b := ⟨_, rfl⟩
                  rw [htx]
                  have HTX := Lib.hid (show tx.data.toList = badOf how from by rw [← htx])
                  have htz : tx.size ≤ 3 := by rw [size_toList, HTX.out]; unfold badOf; split <;> simp [badB]
                  have hcat : ¬ 9223372036854775807 < o.size + tx.size := by omega
                  obtain ⟨q, hq⟩ : ∃ q : Nat, fs.length + 1 = q := ⟨_, rfl⟩
                  have hqw : IntKind.i64.wrap ((fs.length : Int) + 1) = (q : Int) := by rw [IntWalk.i64_in _ (by omega)]; omega
                  have HQ := Lib.hid hq
                  have HAT := Lib.hid (show Value.string (o ++ tx) = TT from by
                    rw [HTT.out]
                    congr 1
                    apply bytes_eq
                    rw [← HA.out]
                    unfold allP
                    rw [HST2.out]
                    simp [HFX.out, HTX.out])
                  have HAM := Lib.hid (show Value.int .i64 (q : Int) = MM from by
                    rw [HMM.out, ← HA.out, ← HQ.out]
                    unfold allP
                    rw [HST2.out]
                    simp [HFX.out])
                  have hlen : ([((at2 : Int), (held.data.toList.length : Int))]).length = 1 := rfl
                  try rw [hlen]
                  clear hf6 hd6 hk6 hx6 htx hq
                  go_wp2_with (go_at_call 21; refine (at_any db cb how _ _ _ _ HD6.out).mono ?_; rintro e w' ⟨rfl, hww⟩; obtain rfl := hww.symm)
                  obtain ⟨W7, hW7⟩ : ∃ W, (W6.setCell ⟨tb, k, none⟩ (.string (o ++ tx))).setCell ⟨tb + 1, k, none⟩ (.int .i64 q) = W := ⟨_, rfl⟩
                  have HD7 := Lib.hid (show DecB W7 db cb how ⟨#[]⟩ (s.size : Int) true from by rw [← hW7]; exact (HD6.out.keep (Keep.of_setCell _ _ _ _) (fun e => by omega)).keep (Keep.of_setCell _ _ _ _) (fun e => by omega))
                  have HBT7 := Lib.hid (show Blk W7 tb (cs2.setIfInBounds k (.string (o ++ tx))) 56 from by rw [← hW7]; exact (HBT6.out.set k (.string (o ++ tx))).keep (Keep.of_setCell _ _ _ _) (fun e => by omega))
                  have HBM7 := Lib.hid (show Blk W7 (tb + 1) (ds2.setIfInBounds k (.int .i64 q)) 57 from by rw [← hW7]; exact (HBM6.out.keep (Keep.of_setCell _ tb k (.string (o ++ tx))) (fun e => by omega)).set k (.int .i64 q))
                  have HB7 := Lib.hid (show Below db w2 W7 from by rw [← hW7]; exact HB6.out.trans (below_two (by omega) (by omega) (by omega)))
                  try rw [hW7]
                  refine (reset_any db cb how _ _ _ W7 HD7.out).mono ?_
                  rintro e W8 ⟨rfl, hd8, hk8⟩
                  have HTW8 := Lib.hid (show Two k TT TT (.string ⟨#[]⟩) (cs2.setIfInBounds k (.string (o ++ tx))) ∧ Two k MM MM (.int .i64 0) (ds2.setIfInBounds k (.int .i64 q)) from by
                    have h1 := HTW2.out.1.set hk2 (.string (o ++ tx))
                    have h2 := HTW2.out.2.set hk2 (.int .i64 q)
                    rw [HAT.out] at h1 ⊢
                    rw [HAM.out] at h2 ⊢
                    exact ⟨h1, h2⟩)
                  have HBT8 := Lib.hid (HBT7.out.keep hk8 (fun e => by omega))
                  have HBM8 := Lib.hid (HBM7.out.keep hk8 (fun e => by omega))
                  have HB8 := Lib.hid (show Below db w2 W8 from HB7.out.trans (hk8.below (by have := HB7.out.size; rw [HDB.out] at this; exact this) (fun j e => by omega)))
                  have HD8 := Lib.hid hd8
                  clear hd8 hk8 hW7
                  go_wp2
                  go_roundw
                  case rel => exact ⟨k + 1, _, _, by go_num, by omega, HBT8.out, HBM8.out, ⟨HTW8.out.1.next, HTW8.out.2.next⟩, HD8.out, HB8.out⟩
                  case measure => simp [intOf]; omega
          · have hk3 : k = 2 := by omega
            subst hk3
            have h1 := HTW.out.1.end
            have h2 := HTW.out.2.end
            have c0 : wr.cell? ⟨tb, 0, none⟩ = some TT := two_block HBT.out (by rw [h1]; rfl)
            have c1 : wr.cell? ⟨tb, 1, none⟩ = some TT := two_block HBT.out (by rw [h1]; rfl)
            have d0 : wr.cell? ⟨tb + 1, 0, none⟩ = some MM := two_block HBM.out (by rw [h2]; rfl)
            have d1 : wr.cell? ⟨tb + 1, 1, none⟩ = some MM := two_block HBM.out (by rw [h2]; rfl)
            rw [HTT.out] at c0 c1
            rw [HMM.out] at d0 d1
            have HTR := Lib.hid (HT2.out.below HBR.out HDB.out.symm)
            have HB7 := Lib.hid (HB2.out.trans (HBR.out.mono (by rw [← HDB.out]; exact HB2.out.size)))
            clear h1 h2
            go_wp2_with (go_at_call 11; refine (awake_any _ HTR.out).mono ?_; rintro e w' ⟨rfl, hb⟩; replace hb := Lib.hid (HB7.out.trans (hb.mono HB7.out.size)))
            go_ret
            exact ⟨rfl, hb.out⟩

end Go.Proofs.YtplobpelhcagpaaDoor
