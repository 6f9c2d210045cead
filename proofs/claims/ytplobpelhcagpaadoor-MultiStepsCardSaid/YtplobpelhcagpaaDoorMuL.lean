/-
  Contract of the library's stable sort over characters.
-/
import Derived.Test.YtplobpelhcagpaaDoorMuK
namespace Go.Proofs.YtplobpelhcagpaaDoor
open Go.RowKit Go.Shelf Pl14

/-- the sort's state: the row, and what it came from -/
structure SortedTo (blk off N : Nat) (d D : Nat → Int) (w wr : World) : Prop where
  row : RowF .i32 wr blk off N D
  keep : KeepR blk off N w wr
  arr : Arr 0 N d D

theorem SortedTo.next {blk off N a b : Nat} {d D D' : Nat → Int} {w wr w' : World} (h : SortedTo blk off N d D w wr) (hr : RowF .i32 w' blk off N D') (hk : KeepR blk off N wr w') (ha : Arr a b D D') (hab : a ≤ b) (hb : b ≤ N) :
    SortedTo blk off N d D' w w' :=
  ⟨hr, h.keep.trans hk, h.arr.trans (ha.widen (Nat.zero_le _) hab hb)⟩

set_option maxRecDepth 100000 in
set_option maxHeartbeats 6000000 in
theorem stable_any (blk off N cap bx : Nat) (d : Nat → Int) (I : World → Prop) (hI : CmpInv bx blk I) (w : World) (hw : I w) (hr : RowF .i32 w blk off N d) (hN : N ≤ 1000000) (hcap : N ≤ cap) (hblk : blk < w.heap.size) :
    Calls Tryd.prog 71 #[.slice (some ⟨blk, off, none⟩) N cap, .int .i64 N, cmpV bx] w fun e w' =>
      e = .returned (.tuple #[]) ∧ ∃ d', RowF .i32 w' blk off N d' ∧ KeepR blk off N w w' ∧ Arr 0 N d d' ∧ RiseF d' 0 N := by
  have HI := Lib.hid hI; clear hI
  have HW := Lib.hid hw; clear hw
  have HR := Lib.hid hr; clear hr
  have hIN := insertion_any blk off N cap
  have HIN := Lib.hid hIN; clear hIN
  have hSY := sym_all N blk off N cap
  have HSY := Lib.hid hSY; clear hSY
  unfold cmpV at *
  go_enter Tryd.func71, Tryd.ntmps71
  go_wp2
  go_loopw [7, 8] (fun x y wr => ∃ (k a : Nat) (D : Nat → Int), a = k * 20 ∧ a ≤ N ∧ x = .int .i64 a ∧ y = .int .i64 ((a : Int) + 20) ∧ SortedTo blk off N d D w wr ∧ DoneB 20 k D) (fun _ y _ => N + 21 - (intOf y).toNat)
  case atStart => exact ⟨0, 0, d, rfl, Nat.zero_le _, rfl, rfl, ⟨HR.out, KeepR.refl _ _ _ _, Arr.refl _ _ _⟩, fun j hj => by omega⟩
  case round =>
    obtain ⟨k, a, D, hk, haN, rfl, rfl, hst, hdone⟩ := hrel
    have HK := Lib.hid hk; clear hk
    have HST := Lib.hid hst; clear hst
    have HD := Lib.hid hdone; clear hdone
    have hbw := HST.out.keep.size
    by_cases hlt : a + 20 ≤ N
    · go_wp2_with fail
      rw [show ((a : Int) + 20) = ((a + 20 : Nat) : Int) from by omega]
      refine (HIN.out a (a + 20) bx D I HI.out _ (HI.out.keep _ _ HW.out HST.out.keep.keep) HST.out.row (by omega) hlt hN hcap (by omega)).mono ?_
      rintro e w1 ⟨rfl, D', hrow, hkp, harr, hrise⟩
      have HX := Lib.hid (And.intro hrow (And.intro hkp (And.intro harr hrise)))
      clear hrow hkp harr hrise
      go_wp2
      go_roundw
      case rel =>
        obtain ⟨hrow, hkp, harr, hrise⟩ := HX.out
        have hka := HK.out
        refine ⟨k + 1, a + 20, D', by omega, hlt, by go_num, by go_num, HST.out.next hrow hkp harr (by omega) hlt, ?_⟩
        rw [hka] at harr hrise
        exact HD.out.step harr hrise
      case measure => simp [intOf]; omega
    · go_wp2_with fail
      refine (HIN.out a N bx D I HI.out _ (HI.out.keep _ _ HW.out HST.out.keep.keep) HST.out.row (by omega) (Nat.le_refl _) hN hcap (by omega)).mono ?_
      rintro e w1 ⟨rfl, D', hrow, hkp, harr, hrise⟩
      have hST2 := HST.out.next hrow hkp harr haN (Nat.le_refl _)
      have hT : TodoB 20 0 N D' := by
        have hka := HK.out
        rw [hka] at harr hrise
        exact HD.out.last harr hrise (by omega) (by omega)
      clear HST HD HK hrow hkp harr hrise hbw
      have HST := Lib.hid hST2; clear hST2
      have HT := Lib.hid hT; clear hT
      obtain ⟨w2, rfl⟩ : ∃ w2 : World, w2 = w1 := ⟨_, rfl⟩
      clear hlt
      go_wp2
      go_loopw [6, 7, 8, 9] (fun z _ _ _ wr => ∃ (bs : Nat) (D : Nat → Int), 0 < bs ∧ bs ≤ 2 * N + 20 ∧ z = .int .i64 bs ∧ SortedTo blk off N d D w wr ∧ TodoB bs 0 N D) (fun z _ _ _ _ => 2 * N + 20 - (intOf z).toNat)
      case atStart => exact ⟨20, D', by omega, by omega, rfl, HST.out, HT.out⟩
      case round =>
        clear HST HT
        obtain ⟨bs, E, hbs0, hbsN, rfl, hst, htodo⟩ := hrel
        have HST := Lib.hid hst; clear hst
        have HTD := Lib.hid htodo; clear htodo
        have hbw := HST.out.keep.size
        by_cases hlt : bs < N
        · obtain ⟨w3, rfl⟩ : ∃ w3 : World, w3 = wr := ⟨_, rfl⟩
          obtain ⟨b2, hb2⟩ : ∃ b2 : Nat, b2 = 2 * bs := ⟨_, rfl⟩
          have eb2 : (2 : Int) * (bs : Int) = (b2 : Int) := by omega
          have eb3 : (bs : Int) * 2 = (b2 : Int) := by omega
          have hb21 : b2 ≤ 2 * bs := by omega
          have hb22 : 2 * bs ≤ b2 := by omega
          have HB := Lib.hid hb2; clear hb2
          go_wp2
          go_loopw [7, 8] (fun x y wr => ∃ (k a : Nat) (F : Nat → Int), a = k * b2 ∧ a ≤ N ∧ x = .int .i64 a ∧ y = .int .i64 ((a : Int) + (b2 : Int)) ∧ SortedTo blk off N d F w wr ∧ DoneB b2 k F ∧ TodoB bs (2 * k) N F) (fun _ y _ => N + b2 + 1 - (intOf y).toNat)
          case atStart => exact ⟨0, 0, E, by omega, Nat.zero_le _, rfl, by go_num, HST.out, fun j hj => by omega, HTD.out⟩
          case round =>
            clear HST HTD hbw
            obtain ⟨k, a, F, hk, haN, rfl, rfl, hst, hdone, htodo⟩ := hrel
            have HK := Lib.hid hk; clear hk
            have HST := Lib.hid hst; clear hst
            have HD := Lib.hid hdone; clear hdone
            have HTD := Lib.hid htodo; clear htodo
            have hbw := HST.out.keep.size
            have hB1 : bs ≤ b2 := by have := HB.out; omega
            have hB2 : b2 ≤ bs + bs := by have := HB.out; omega
            have hk2 : 2 * k * bs = a := by rw [HK.out, HB.out, Nat.mul_comm 2 k, Nat.mul_assoc]
            have hk3 : (2 * k + 1) * bs = a + bs := by rw [Nat.add_mul, hk2]; omega
            have HK2 := Lib.hid hk2; clear hk2
            have HK3 := Lib.hid hk3; clear hk3
            have hR1 : RiseF F a (min (a + bs) N) := by have := HTD.out (2 * k) (Nat.le_refl _); rw [HK2.out] at this; exact this
            have hR2 : RiseF F (a + bs) (min (a + bs + bs) N) := by have := HTD.out (2 * k + 1) (by omega); rw [HK3.out] at this; exact this
            have HR1 := Lib.hid hR1; clear hR1
            have HR2 := Lib.hid hR2; clear hR2
            by_cases hlt2 : a + b2 ≤ N
            · go_wp2_with fail
              rw [show ((a : Int) + (b2 : Int)) = ((a + b2 : Nat) : Int) from by omega, show ((a : Int) + (bs : Int)) = ((a + bs : Nat) : Int) from by omega]
              refine (HSY.out a (a + bs) (a + b2) bx F I HI.out _ (HI.out.keep _ _ HW.out HST.out.keep.keep) HST.out.row (by omega) (by have := HB.out; omega) hlt2 hN hcap (by omega) (HR1.out.part (Nat.le_refl _) (by omega)) (HR2.out.part (Nat.le_refl _) (by have := HB.out; omega)) (by omega)).mono ?_
              rintro e w4 ⟨rfl, F', hrow, hkp, harr, hrise⟩
              have HX := Lib.hid (And.intro hrow (And.intro hkp (And.intro harr hrise)))
              clear hrow hkp harr hrise
              go_wp2
              go_roundw
              case rel =>
                obtain ⟨hrow, hkp, harr, hrise⟩ := HX.out
                have hka := HK.out
                refine ⟨k + 1, a + b2, F', by rw [Nat.add_mul]; omega, hlt2, by go_num, by go_num, HST.out.next hrow hkp harr (by omega) hlt2, ?_, ?_⟩
                · rw [hka] at harr hrise
                  exact HD.out.step harr hrise
                · refine HTD.out.rest (2 * (k + 1)) (by omega) (fun p hp => harr.out p (.inr ?_))
                  have : 2 * (k + 1) * bs = a + b2 := by
                    have := HK2.out
                    rw [show 2 * (k + 1) = 2 * k + 2 from by omega, Nat.add_mul, this, HB.out]
                  omega
              case measure => simp [intOf]; omega
            · have hnew : ∀ F', Arr a N F F' → RiseF F' a N → TodoB b2 0 N F' := fun F' k1 k2 => by
                have hka := HK.out
                rw [hka] at k1 k2
                exact HD.out.last k1 k2 (by omega) (by omega)
              have HNEW := Lib.hid hnew; clear hnew
              by_cases hlt3 : a + bs < N
              · go_wp2_with fail
                rw [show ((a : Int) + (bs : Int)) = ((a + bs : Nat) : Int) from by omega]
                refine (HSY.out a (a + bs) N bx F I HI.out _ (HI.out.keep _ _ HW.out HST.out.keep.keep) HST.out.row (by omega) hlt3 (Nat.le_refl _) hN hcap (by omega) (HR1.out.part (Nat.le_refl _) (by omega)) (HR2.out.part (Nat.le_refl _) (by have := HB.out; omega)) (by omega)).mono ?_
                rintro e w4 ⟨rfl, F', hrow, hkp, harr, hrise⟩
                have HX := Lib.hid (And.intro (HST.out.next hrow hkp harr haN (Nat.le_refl _)) (HNEW.out F' harr hrise))
                clear hrow hkp harr hrise
                go_wp2
                go_roundw
                case rel => exact ⟨b2, F', by omega, by omega, rfl, HX.out⟩
                case measure => simp [intOf]; have := HB.out; omega
              · go_wp2
                go_roundw
                case rel => exact ⟨b2, F, by omega, by omega, rfl, HST.out, HNEW.out F (Arr.refl _ _ _) (by have := HR1.out; rw [show min (a + bs) N = N from by omega] at this; exact this)⟩
                case measure => simp [intOf]; have := HB.out; omega
        · go_wp2
          go_end0
          have h0 := HTD.out 0 (Nat.le_refl _)
          rw [show min (0 * bs + bs) N = N from by omega, Nat.zero_mul] at h0
          exact ⟨rfl, E, HST.out.row, HST.out.keep, HST.out.arr, h0⟩

end Go.Proofs.YtplobpelhcagpaaDoor
