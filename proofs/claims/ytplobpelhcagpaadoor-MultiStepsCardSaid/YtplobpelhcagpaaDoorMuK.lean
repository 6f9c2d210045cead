/-
  Contract of the library's symMerge over characters: the whole.
-/
import Derived.Test.YtplobpelhcagpaaDoorMuJ
import Derived.Deep.DeepCutAuto
namespace Go.Proofs.YtplobpelhcagpaaDoor
open Go.RowKit Go.Shelf Pl14

/-- how far the search has come -/
structure SrchAt (d : Nat → Int) (m h lo r0 s r : Nat) : Prop where
  h1 : lo ≤ s
  h2 : s ≤ r
  h3 : r ≤ r0
  l : ∀ c, lo ≤ c → c < s → cls (d c) ≤ cls (d (h + m - 1 - c))
  r_ : ∀ c, r ≤ c → c < r0 → cls (d (h + m - 1 - c)) < cls (d c)

theorem SrchAt.low {d : Nat → Int} {a m b h lo r0 s r c : Nat} (hs : SrchAt d m h lo r0 s r) (r1 : RiseF d a m) (r2 : RiseF d m b) (hlo : (h < m ∧ lo = h + m - b ∧ r0 = h) ∨ (m ≤ h ∧ lo = a ∧ r0 = m)) (hh : h = (a + b) / 2)
    (hab : a < m) (hmb : m < b) (h1 : s ≤ c) (h2 : c < r) (hc : cls (d c) ≤ cls (d (h + m - 1 - c))) : SrchAt d m h lo r0 (c + 1) r := by
  obtain ⟨k1, k2, k3, k4, k5⟩ := hs
  refine ⟨by omega, by omega, k3, ?_, k5⟩
  intro c' hc1 hc2
  have e1 : cls (d c') ≤ cls (d c) := r1 c' c (by omega) (by omega) (by omega)
  have e2 : cls (d (h + m - 1 - c)) ≤ cls (d (h + m - 1 - c')) := r2 _ _ (by omega) (by omega) (by omega)
  omega

theorem SrchAt.high {d : Nat → Int} {a m b h lo r0 s r c : Nat} (hs : SrchAt d m h lo r0 s r) (r1 : RiseF d a m) (r2 : RiseF d m b) (hlo : (h < m ∧ lo = h + m - b ∧ r0 = h) ∨ (m ≤ h ∧ lo = a ∧ r0 = m)) (hh : h = (a + b) / 2)
    (hab : a < m) (hmb : m < b) (h1 : s ≤ c) (h2 : c < r) (hc : cls (d (h + m - 1 - c)) < cls (d c)) : SrchAt d m h lo r0 s c := by
  obtain ⟨k1, k2, k3, k4, k5⟩ := hs
  refine ⟨by omega, by omega, by omega, k4, ?_⟩
  intro c' hc1 hc2
  have e1 : cls (d c) ≤ cls (d c') := r1 c c' (by omega) (by omega) (by omega)
  have e2 : cls (d (h + m - 1 - c')) ≤ cls (d (h + m - 1 - c)) := r2 _ _ (by omega) (by omega) (by omega)
  omega

theorem SrchAt.mid {d : Nat → Int} {a m b h lo r0 s r : Nat} (hs : SrchAt d m h lo r0 s r) (r1 : RiseF d a m) (r2 : RiseF d m b) (hlo : (h < m ∧ lo = h + m - b ∧ r0 = h) ∨ (m ≤ h ∧ lo = a ∧ r0 = m)) (hh : h = (a + b) / 2)
    (hab : a < m) (hmb : m < b) (hsr : ¬ s < r) : MidAt d a m b h s (h + m - s) := by
  obtain ⟨k1, k2, k3, k4, k5⟩ := hs
  exact MidAt.found r1 r2 hab hmb hh (by omega) k1 (by omega) (by omega) k4 (fun c c1 c2 c3 => k5 c (by omega) (by omega))

/-- the merge's contract -/
def SymSaid (n : Nat) : Prop := ∀ (blk off N cap a m b bx : Nat) (d : Nat → Int) (I : World → Prop) (_ : CmpInv bx blk I) (w : World) (_ : I w) (_ : RowF .i32 w blk off N d) (_ : a < m) (_ : m < b) (_ : b ≤ N) (_ : N ≤ 1000000) (_ : N ≤ cap) (_ : blk < w.heap.size)
    (_ : RiseF d a m) (_ : RiseF d m b) (_ : b - a ≤ n),
    Calls Tryd.prog 73 #[.slice (some ⟨blk, off, none⟩) N cap, .int .i64 a, .int .i64 m, .int .i64 b, cmpV bx] w fun e w' =>
      e = .returned (.tuple #[]) ∧ ∃ d', RowF .i32 w' blk off N d' ∧ KeepR blk off N w w' ∧ Arr a b d d' ∧ RiseF d' a b

set_option maxRecDepth 100000 in
set_option maxHeartbeats 6000000 in
theorem sym_gen (n : Nat) (ih : SymSaid n) (blk off N cap a m b bx : Nat) (d : Nat → Int) (I : World → Prop) (hI : CmpInv bx blk I) (w : World) (hw : I w) (hr : RowF .i32 w blk off N d) (hab : a + 1 < m) (hmb : m + 1 < b) (hbN : b ≤ N) (hN : N ≤ 1000000) (hcap : N ≤ cap) (hblk : blk < w.heap.size)
    (hr1 : RiseF d a m) (hr2 : RiseF d m b) (hn : b - a ≤ n + 1) :
    Calls Tryd.prog 73 #[.slice (some ⟨blk, off, none⟩) N cap, .int .i64 a, .int .i64 m, .int .i64 b, cmpV bx] w fun e w' =>
      e = .returned (.tuple #[]) ∧ ∃ d', RowF .i32 w' blk off N d' ∧ KeepR blk off N w w' ∧ Arr a b d d' ∧ RiseF d' a b := by
  have IH := Lib.hid ih; clear ih
  unfold SymSaid cmpV at IH
  unfold cmpV
  have HI := Lib.hid hI; clear hI
  have HW := Lib.hid hw; clear hw
  have HR1 := Lib.hid hr1; clear hr1
  have HR2 := Lib.hid hr2; clear hr2
  have HR := Lib.hid hr; clear hr
  have e1 : ((m : Int) - (a : Int) == 1) = false := by simp; omega
  have e2 : ((b : Int) - (m : Int) == 1) = false := by simp; omega
  obtain ⟨h, hh⟩ : ∃ h : Nat, h = (a + b) / 2 := ⟨_, rfl⟩
  have ehalf : (((a : Int) + (b : Int)) / 2) = (h : Int) := by omega
  have hb1 : a + 1 ≤ h := by omega
  have hb2 : h < b := by omega
  have HH := Lib.hid hh; clear hh
  obtain ⟨lo, r0, hlo⟩ : ∃ lo r0 : Nat, (h < m ∧ lo = h + m - b ∧ r0 = h) ∨ (m ≤ h ∧ lo = a ∧ r0 = m) := by
    by_cases hc : h < m
    · exact ⟨_, _, .inl ⟨hc, rfl, rfl⟩⟩
    · exact ⟨_, _, .inr ⟨by omega, rfl, rfl⟩⟩
  have HLO := Lib.hid hlo; clear hlo
  go_enter Tryd.func73, Tryd.ntmps73
  go_upto_if 140 with fail
  go_cut [20, 21] (fun s20 s21 wx => s20 = .int .i64 lo ∧ s21 = .int .i64 r0 ∧ w = wx)
  case first =>
    as_aux_lemma =>
      by_cases hc : h < m
      · go_wp2
        go_meet
        have hx := HLO.out
        have hy := HH.out
        refine ⟨?_, ?_, rfl⟩
        · rw [show (lo : Int) = (h : Int) + (m : Int) - (b : Int) from by omega]
        · rw [show r0 = h from by omega]
      · go_wp2
        go_meet
        have hx := HLO.out
        refine ⟨?_, ?_, rfl⟩
        · rw [show lo = a from by omega]
        · rw [show r0 = m from by omega]
  case rest =>
    as_aux_lemma =>
      obtain ⟨rfl, rfl, rfl⟩ := hcut
      have hlo1 : lo ≤ r0 := by have := HLO.out; have := HH.out; omega
      have hlo2 : a ≤ lo := by have := HLO.out; have := HH.out; omega
      have hlo3 : r0 ≤ m := by have := HLO.out; omega
      have hlo4 : r0 ≤ h := by have := HLO.out; omega
      have hlo5 : h + m ≤ b + lo := by have := HLO.out; have := HH.out; omega
      go_wp2
      go_loopw [20, 21, 23] (fun x y _ wr => ∃ (s r : Nat), SrchAt d m h lo r0 s r ∧ x = .int .i64 s ∧ y = .int .i64 r ∧ RowF .i32 wr blk off N d ∧ KeepR blk off N w wr) (fun x y _ _ => (intOf y).toNat - (intOf x).toNat)
      case atStart => exact ⟨lo, r0, ⟨Nat.le_refl _, hlo1, Nat.le_refl _, fun c _ _ => by omega, fun c _ _ => by omega⟩, rfl, rfl, HR.out, KeepR.refl _ _ _ _⟩
      case round =>
        obtain ⟨s, r, hsr, rfl, rfl, hrow, hkeep⟩ := hrel
        have s1 := hsr.h1
        have s2 := hsr.h2
        have s3 := hsr.h3
        have HS := Lib.hid hsr; clear hsr
        have HROW := Lib.hid hrow; clear hrow
        have hbw := hkeep.size
        by_cases hlt : s < r
        · obtain ⟨c, hc⟩ : ∃ c : Nat, (((s : Int) + (r : Int)) / 2) = (c : Int) := ⟨(s + r) / 2, by omega⟩
          have hc1 : s ≤ c := by omega
          have hc2 : c < r := by omega
          obtain ⟨q, hq⟩ : ∃ q : Nat, (h : Int) + (m : Int) - 1 - (c : Int) = (q : Int) := ⟨h + m - 1 - c, by omega⟩
          have hq' : q = h + m - 1 - c := by omega
          have HQ := Lib.hid hq'; clear hq'
          have hq2 : q < b := by omega
          obtain ⟨ca, fa⟩ := HROW.out q (by omega)
          obtain ⟨cb, fb⟩ := HROW.out c (by omega)
          obtain ⟨x, hx⟩ : ∃ x, d q = x := ⟨_, rfl⟩
          obtain ⟨y, hy⟩ : ∃ y, d c = y := ⟨_, rfl⟩
          rw [hx] at ca
          rw [hy] at cb
          have HX := Lib.hid hx; clear hx
          have HY := Lib.hid hy; clear hy
          have HWR := Lib.hid (HI.out.keep _ _ HW.out hkeep.keep)
          have i1 : (0 : Int) ≤ (q : Int) := by omega
          have i2 : (q : Int) < (N : Int) := by omega
          have i3 : (0 : Int) ≤ (c : Int) := by omega
          have i4 : (c : Int) < (N : Int) := by omega
          have i5 : IntKind.i64.wrap ((h : Int) + (m : Int) - 1 - (c : Int)) = (q : Int) := by rw [IntWalk.i64_in _ (by omega)]; exact hq
          clear hq
          by_cases hxy : cls x - cls y < 0
          · as_aux_lemma =>
            have hdx : decide (cls x - cls y < 0) = true := decide_eq_true hxy
            go_wp2
            go_region_held3 (fun w' => w'.cell? ⟨blk, off + q, none⟩ = some (.int .i32 x) ∧ w'.cell? ⟨blk, off + c, none⟩ = some (.int .i32 y)) (first | go_keep | (refine ⟨?_, ?_⟩ <;> (rw [hb1.cell (by simp; omega)]; assumption)))
              (first | (go_at_call 70; refine (HI.out.cmp _ ?_ _ _).mono ?_; exact HI.out.keep _ _ HWR.out (Keep.of_drew _ _); rintro e w1 ⟨rfl, hb1⟩))
            have HROW1 := Lib.hid (HROW.out.drew.below hb1 (by simp; omega))
            have hk1 := (hkeep.trans (KeepR.of_drew _ _ _ _)).trans (KeepR.of_below hb1 rfl (by simp; omega))
            go_wp2
            go_roundw
            case rel => exact ⟨s, c, HS.out.high HR1.out HR2.out HLO.out HH.out (by omega) (by omega) hc1 hc2 (by rw [← HQ.out, HX.out, HY.out]; omega), rfl, rfl, HROW1.out, hk1⟩
            case measure => simp [intOf]; omega
          · as_aux_lemma =>
            have hdx : decide (cls x - cls y < 0) = false := decide_eq_false hxy
            go_wp2
            go_region_held3 (fun w' => w'.cell? ⟨blk, off + q, none⟩ = some (.int .i32 x) ∧ w'.cell? ⟨blk, off + c, none⟩ = some (.int .i32 y)) (first | go_keep | (refine ⟨?_, ?_⟩ <;> (rw [hb1.cell (by simp; omega)]; assumption)))
              (first | (go_at_call 70; refine (HI.out.cmp _ ?_ _ _).mono ?_; exact HI.out.keep _ _ HWR.out (Keep.of_drew _ _); rintro e w1 ⟨rfl, hb1⟩))
            have HROW1 := Lib.hid (HROW.out.drew.below hb1 (by simp; omega))
            have hk1 := (hkeep.trans (KeepR.of_drew _ _ _ _)).trans (KeepR.of_below hb1 rfl (by simp; omega))
            go_wp2
            go_roundw
            case rel => exact ⟨c + 1, r, HS.out.low HR1.out HR2.out HLO.out HH.out (by omega) (by omega) hc1 hc2 (by rw [← HQ.out, HX.out, HY.out]; omega), by go_num, rfl, HROW1.out, hk1⟩
            case measure => simp [intOf]; omega
        · obtain ⟨wo, rfl⟩ : ∃ wo : World, wo = wr := ⟨_, rfl⟩
          have HMID := Lib.hid (HS.out.mid HR1.out HR2.out HLO.out HH.out (by omega) (by omega) hlt)
          obtain ⟨f, hf⟩ : ∃ f : Nat, (h : Int) + (m : Int) - (s : Int) = (f : Int) := ⟨h + m - s, by omega⟩
          have hf' : h + m - s = f := by omega
          rw [hf'] at HMID
          have HF := Lib.hid hf'; clear hf'
          have f1 : f ≤ b := HMID.out.h5
          have f2 : m ≤ f := by omega
          have f3 : h ≤ f := by omega
          have i5 : IntKind.i64.wrap ((h : Int) + (m : Int) - (s : Int)) = (f : Int) := by rw [IntWalk.i64_in _ (by omega)]; exact hf
          have HTURN := Lib.hid (HMID.out.turn HR1.out HR2.out (by omega) (by omega))
          have g1 := HMID.out.h1
          have g3 := HMID.out.h3
          go_upto_region 39 with fail
          go_cut [185] (fun s185 wx => ∃ t : Bool, s185 = .bool t ∧ (t = true ↔ s < m ∧ m < f) ∧ wo = wx)
          case first =>
            as_aux_lemma =>
              by_cases hx1 : s < m
              · by_cases hx2 : m < f
                · go_wp2_with fail
                  go_meet
                  exact ⟨true, rfl, ⟨fun _ => ⟨hx1, hx2⟩, fun _ => rfl⟩, rfl⟩
                · go_wp2_with fail
                  go_meet
                  exact ⟨false, rfl, ⟨(fun h => by cases h), fun h => absurd h.2 hx2⟩, rfl⟩
              · go_wp2_with fail
                go_meet
                exact ⟨false, rfl, ⟨(fun h => by cases h), fun h => absurd h.1 hx1⟩, rfl⟩
          case rest =>
            as_aux_lemma =>
              obtain ⟨t, rfl, ht, rfl⟩ := hcut
              have HT := Lib.hid ht; clear ht
              go_upto_if 185 with fail
              go_cut [] (fun wx => RowF .i32 wx blk off N (rotF d s m f) ∧ KeepR blk off N w wx)
              case first =>
                as_aux_lemma =>
                  cases t with
                  | true =>
                    obtain ⟨hx1, hx2⟩ := HT.out.1 rfl
                    go_wp2_with fail
                    refine (rotate_any blk off N cap s m f d _ _ HROW.out hx1 hx2 (by omega) hN hcap (by omega)).mono ?_
                    rintro e w1 ⟨rfl, hrow1, hk1⟩
                    go_wp2_with fail
                    go_meet
                    exact ⟨hrow1, hkeep.trans hk1⟩
                  | false =>
                    have hno : ¬ (s < m ∧ m < f) := fun h => by have := HT.out.2 h; cases this
                    go_wp2_with fail
                    go_meet
                    refine ⟨?_, hkeep⟩
                    by_cases hx : s = m
                    · subst hx; exact HROW.out.congr (fun p _ => (rotF_left d s f p).symm)
                    · obtain rfl : f = m := by omega
                      exact HROW.out.congr (fun p _ => (rotF_right d s f p).symm)
              case rest =>
                as_aux_lemma =>
                  clear HROW hkeep hbw HT
                  obtain ⟨hrow2, hkeep2⟩ := hcut
                  have HROW2 := Lib.hid hrow2; clear hrow2
                  have hbw2 := hkeep2.size
                  obtain ⟨w2, rfl⟩ : ∃ w2 : World, w2 = wc := ⟨_, rfl⟩
                  obtain ⟨D, hD⟩ : ∃ D, rotF d s m f = D := ⟨_, rfl⟩
                  rw [hD] at HTURN HROW2
                  clear hD
                  have HWR := Lib.hid (HI.out.keep _ _ HW.out hkeep2.keep)
                  go_upto_region 41 with fail
                  go_cut [199] (fun s199 wx => ∃ t : Bool, s199 = .bool t ∧ (t = true ↔ a < s ∧ s < h) ∧ w2 = wx)
                  case first =>
                    as_aux_lemma =>
                      by_cases hx1 : a < s
                      · by_cases hx2 : s < h
                        · go_wp2_with fail
                          go_meet
                          exact ⟨true, rfl, ⟨fun _ => ⟨hx1, hx2⟩, fun _ => rfl⟩, rfl⟩
                        · go_wp2_with fail
                          go_meet
                          exact ⟨false, rfl, ⟨(fun h => by cases h), fun h => absurd h.2 hx2⟩, rfl⟩
                      · go_wp2_with fail
                        go_meet
                        exact ⟨false, rfl, ⟨(fun h => by cases h), fun h => absurd h.1 hx1⟩, rfl⟩
                  case rest =>
                    as_aux_lemma =>
                      obtain ⟨t, rfl, ht, rfl⟩ := hcut
                      have HT := Lib.hid ht; clear ht
                      go_upto_if 199 with fail
                      go_cut [] (fun wx => ∃ D1, RowF .i32 wx blk off N D1 ∧ KeepR blk off N w wx ∧ Arr a h D D1 ∧ RiseF D1 a h)
                      case first =>
                        as_aux_lemma =>
                          cases t with
                          | true =>
                            obtain ⟨hx1, hx2⟩ := HT.out.1 rfl
                            go_wp2_with fail
                            refine (IH.out blk off N cap a s h bx D I HI.out _ HWR.out HROW2.out hx1 hx2 (by omega) hN hcap (by omega) HTURN.out.2.1 HTURN.out.2.2.1 (by omega)).mono ?_
                            rintro e w1 ⟨rfl, D1, hrow1, hk1, harr, hrise⟩
                            go_wp2_with fail
                            go_meet
                            exact ⟨D1, hrow1, hkeep2.trans hk1, harr, hrise⟩
                          | false =>
                            have hno : ¬ (a < s ∧ s < h) := fun h => by have := HT.out.2 h; cases this
                            go_wp2_with fail
                            go_meet
                            refine ⟨D, HROW2.out, hkeep2, Arr.refl _ _ _, ?_⟩
                            by_cases hx : a = s
                            · subst hx; exact HTURN.out.2.2.1
                            · obtain rfl : s = h := by omega
                              exact HTURN.out.2.1
                      case rest =>
                        as_aux_lemma =>
                          clear HROW2 hkeep2 hbw2 HWR HT
                          obtain ⟨D1, hrow3, hkeep3, harr3, hrise3⟩ := hcut
                          have HROW3 := Lib.hid hrow3; clear hrow3
                          have HARR3 := Lib.hid harr3; clear harr3
                          have HRISE3 := Lib.hid hrise3; clear hrise3
                          have hbw3 := hkeep3.size
                          obtain ⟨w3, rfl⟩ : ∃ w3 : World, w3 = wc := ⟨_, rfl⟩
                          have HWR := Lib.hid (HI.out.keep _ _ HW.out hkeep3.keep)
                          have HA1 := Lib.hid (HTURN.out.2.2.2.1.congr (d' := D1) (fun p hp _ => HARR3.out.out p (.inr hp)))
                          have HA2 := Lib.hid (HTURN.out.2.2.2.2.1.congr (d' := D1) (fun p hp _ => HARR3.out.out p (.inr (by omega))))
                          have hfin : ∀ D2, Arr h b D1 D2 → RiseF D2 h b → Arr a b d D2 ∧ RiseF D2 a b := fun D2 k1 k2 =>
                            merge_halves HTURN.out.1 HARR3.out k1 HRISE3.out k2 (by omega) (by omega) HTURN.out.2.2.2.2.2
                          have HFIN := Lib.hid hfin; clear hfin
                          go_upto_region 43 with fail
                          go_cut [213] (fun s213 wx => ∃ t : Bool, s213 = .bool t ∧ (t = true ↔ h < f ∧ f < b) ∧ w3 = wx)
                          case first =>
                            as_aux_lemma =>
                              by_cases hx1 : h < f
                              · by_cases hx2 : f < b
                                · go_wp2_with fail
                                  go_meet
                                  exact ⟨true, rfl, ⟨fun _ => ⟨hx1, hx2⟩, fun _ => rfl⟩, rfl⟩
                                · go_wp2_with fail
                                  go_meet
                                  exact ⟨false, rfl, ⟨(fun h => by cases h), fun h => absurd h.2 hx2⟩, rfl⟩
                              · go_wp2_with fail
                                go_meet
                                exact ⟨false, rfl, ⟨(fun h => by cases h), fun h => absurd h.1 hx1⟩, rfl⟩
                          case rest =>
                            as_aux_lemma =>
                              obtain ⟨t, rfl, ht, rfl⟩ := hcut
                              have HT := Lib.hid ht; clear ht
                              go_upto_if 213 with fail
                              cases t with
                              | true =>
                                obtain ⟨hx1, hx2⟩ := HT.out.1 rfl
                                go_wp2_with fail
                                refine (IH.out blk off N cap h f b bx D1 I HI.out _ HWR.out HROW3.out hx1 hx2 hbN hN hcap (by omega) HA1.out HA2.out (by omega)).mono ?_
                                rintro e w1 ⟨rfl, D2, hrow1, hk1, harr, hrise⟩
                                go_wp2_with fail
                                go_end0
                                exact ⟨rfl, D2, hrow1, hkeep3.trans hk1, HFIN.out D2 harr hrise⟩
                              | false =>
                                have hno : ¬ (h < f ∧ f < b) := fun h => by have := HT.out.2 h; cases this
                                go_wp2_with fail
                                go_end0
                                refine ⟨rfl, D1, HROW3.out, hkeep3, HFIN.out D1 (Arr.refl _ _ _) ?_⟩
                                by_cases hx : h = f
                                · subst hx; exact HA2.out
                                · obtain rfl : f = b := by omega
                                  exact HA1.out

theorem sym_all : ∀ n, SymSaid n := by
  intro n
  induction n with
  | zero => intro blk off N cap a m b bx d I hI w hw hr h1 h2 h3 h4 h5 h6 h7 h8 h9; omega
  | succ n ih =>
    intro blk off N cap a m b bx d I hI w hw hr h1 h2 h3 h4 h5 h6 h7 h8 h9
    by_cases c1 : m = a + 1
    · subst c1
      exact sym_left blk off N cap a b bx d I hI w hw hr h2 h3 h4 h5 h6 h8 _ rfl
    · by_cases c2 : b = m + 1
      · exact sym_right blk off N cap a m b bx d I hI w hw hr (by omega) h3 h4 h5 h6 h7 c2
      · exact sym_gen n ih blk off N cap a m b bx d I hI w hw hr (by omega) (by omega) h3 h4 h5 h6 h7 h8 h9

end Go.Proofs.YtplobpelhcagpaaDoor
