/-
  Contracts: slices.SortStableFunc, marks.Sort.
-/
import Derived.Test.YtplobpelhcagpaaDoorMuL
import Derived.Test.YtplobpelhcagpaaDoorLibS
import Derived.Deep.QuietTactic
import Derived.BigQuiet
namespace Go.Proofs.YtplobpelhcagpaaDoor
open Go.RowKit Go.Shelf Pl14

set_option maxHeartbeats 1600000 in
theorem insertion_none (v cmp : Value) (w : World) :
    Calls Tryd.prog 72 #[v, .int .i64 0, .int .i64 0, cmp] w fun e w' => e = .returned (.tuple #[]) ∧ w = w' := by
  go_enter Tryd.func72, Tryd.ntmps72
  go_wp2
  refine wp_loop_rounds 1 ?_
  rw [rounds_succ]
  go_wp2
  go_end0
  exact ⟨rfl, rfl⟩

set_option maxHeartbeats 1600000 in
theorem stable_none (v cmp : Value) (w : World) :
    Calls Tryd.prog 71 #[v, .int .i64 0, cmp] w fun e w' => e = .returned (.tuple #[]) ∧ w = w' := by
  go_enter Tryd.func71, Tryd.ntmps71
  go_wp2
  refine wp_loop_rounds 1 ?_
  rw [rounds_succ]
  go_wp2_with fail
  refine (insertion_none _ _ _).mono ?_
  rintro e w1 ⟨rfl, rfl⟩
  go_wp2
  refine wp_loop_rounds 1 ?_
  rw [rounds_succ]
  go_wp2
  go_end0
  exact ⟨rfl, rfl⟩

set_option maxHeartbeats 1600000 in
theorem sortStable_none (a : Option Addr) (cap : Nat) (cmp : Value) (w : World) :
    Calls Tryd.prog 69 #[.slice a 0 cap, cmp] w fun e w' => e = .returned (.tuple #[]) ∧ w = w' := by
  go_enter Tryd.func69, Tryd.ntmps69
  go_wp2_with fail
  refine (stable_none _ _ _).mono ?_
  rintro e w1 ⟨rfl, rfl⟩
  go_wp2
  go_end0
  exact ⟨rfl, rfl⟩

set_option maxHeartbeats 1600000 in
theorem sortStable_any (blk off N cap bx : Nat) (d : Nat → Int) (I : World → Prop) (hI : CmpInv bx blk I) (w : World) (hw : I w) (hr : RowF .i32 w blk off N d) (hN : N ≤ 1000000) (hcap : N ≤ cap) (hblk : blk < w.heap.size) :
    Calls Tryd.prog 69 #[.slice (some ⟨blk, off, none⟩) N cap, cmpV bx] w fun e w' =>
      e = .returned (.tuple #[]) ∧ ∃ d', RowF .i32 w' blk off N d' ∧ KeepR blk off N w w' ∧ Arr 0 N d d' ∧ RiseF d' 0 N := by
  have HC := Lib.hid (stable_any blk off N cap bx d I hI w hw hr hN hcap hblk)
  clear hI hw hr
  unfold cmpV at *
  go_enter Tryd.func69, Tryd.ntmps69
  go_wp2_with fail
  refine HC.out.mono ?_
  rintro e w1 ⟨rfl, hx⟩
  go_wp2
  go_end0
  exact ⟨rfl, hx⟩

/-- the sort's own comparison serves while nothing but the row turns -/
theorem cmpInv_sort {w : World} {T : TypeId} {x : Value} {f : FuncId} {x' : Value} (hc : ClsAt w T x f x') (bx g : Nat) (hbg : bx ≠ g) (hg : w.heap.size ≤ g) :
    CmpInv bx g (fun W => Below w.heap.size w W ∧ W.cell? ⟨bx, 0, none⟩ = some (.iface T x)) where
  keep := fun W W' h hk => ⟨h.1.trans (hk.below h.1.size (fun j hj => by subst hj; exact hg)), (World.cell?_of_block (w := W) (a := ⟨bx, 0, none⟩) (hk.block bx (cell_lt h.2) hbg)).trans h.2⟩
  cmp := fun W h r s => cmp_any w W T x f x' hc h.1 bx h.2 r s

set_option maxRecDepth 100000 in
set_option maxHeartbeats 4000000 in
theorem sort_any (T : TypeId) (x : Value) (f : FuncId) (x' : Value) (vl : Value) (xs : List Int) (w : World) (hc : ClsAt w T x f x') (hl : Rd .i32 w vl xs) (hsz : xs.length ≤ 1000000) :
    Calls Tryd.prog 66 #[.iface T x, vl] w fun e w' => ∃ out, e = .returned (.tuple #[out, .int .i64 0]) ∧ Own 21 .i32 w.heap.size w' out (msort xs) ∧ Below w.heap.size w w' := by
  have hna := hc.nil
  have hme := hc.meth
  have hen := hc.enter
  have HC := Lib.hid hc; clear hc
  have HL := Lib.hid hl; clear hl
  go_enter Tryd.func66, Tryd.ntmps66
  go_wp2_with fail
  have hb0 : Below w.heap.size w (w.alloc (.cells #[.iface T x] 119)) := (Below.refl _ _).alloc (Nat.le_refl _) _
  refine (clone_any _ _ _ (HL.out.mono hb0 rfl) hsz).mono ?_
  rintro e w1 ⟨out, rfl, hown, hb1⟩
  have hbx1 : w1.cell? ⟨w.heap.size, 0, none⟩ = some (.iface T x) := by
    rw [hb1.cell (by simp)]; simp
  have hbw : Below w.heap.size w w1 := hb0.trans (hb1.mono hb0.size)
  simp only [World.size_alloc] at hown
  clear hb0 hb1
  obtain ⟨ao, cap, rfl, hc1, hc2, hsh⟩ := hown.shape
  rcases hsh with ⟨rfl, rfl, rfl⟩ | ⟨g, rfl, hB, hg⟩
  · go_wp2
    refine wp_loop_rounds 2 ?_
    rw [rounds_succ]
    go_wp2
    go_quiet (fail)
    go_wp2_with fail
    refine (sortStable_none _ _ _ _).mono ?_
    rintro e w2 ⟨rfl, rfl⟩
    go_wp2
    rw [rounds_succ]
    go_wp2
    go_ret2
    exact ⟨_, rfl, Own.nil _ _ _ _, hbw.drewN _⟩
  · obtain ⟨N, hN⟩ : ∃ N, xs.length = N := ⟨_, rfl⟩
    have HOWN := Lib.hid hown; clear hown
    have HROW0 := Lib.hid HOWN.out.row
    rw [hN] at hc1 hsz HROW0
    have HN := Lib.hid hN
    rw [hN]
    clear hN
    have hI := cmpInv_sort HC.out w.heap.size g (by omega) (by omega)
    have HI := Lib.hid hI; clear hI
    go_wp2
    go_loopw [7, 8] (fun y z wr => ∃ (i fr : Nat) (D : Nat → Int), y = .int .i64 fr ∧ z = .int .i64 i ∧ i ≤ N + 1 ∧ RowF .i32 wr g 0 N D ∧ KeepR g 0 N w1 wr ∧ (i ≤ N → SrtAt (fun j => xs.getD j 0) D i fr) ∧ (i = N + 1 → IsSort (listF (fun j => xs.getD j 0) 0 N) (listF D 0 N)))
      (fun _ z _ => N + 1 - (intOf z).toNat)
    case atStart => exact ⟨0, 0, _, rfl, rfl, by omega, HROW0.out, KeepR.refl _ _ _ _, fun _ => SrtAt.start _, fun h => by omega⟩
    case round =>
      obtain ⟨i, fr, D, rfl, rfl, hiN, hrow, hkeep, hs1, hs2⟩ := hrel
      have HROW := Lib.hid hrow; clear hrow
      have hgw : g < wr.heap.size := by have := hkeep.size; omega
      have hbwr : Below w.heap.size w wr := hbw.trans (hkeep.keep.below hbw.size (fun j hj => by subst hj; omega))
      have hbxr : wr.cell? ⟨w.heap.size, 0, none⟩ = some (.iface T x) := (World.cell?_of_block (w := w1) (a := ⟨w.heap.size, 0, none⟩) (hkeep.keep.block w.heap.size (cell_lt hbx1) (by omega))).trans hbx1
      have HBW := Lib.hid hbwr; clear hbwr
      have hbs : w.heap.size ≤ wr.heap.size := HBW.out.size
      have hbxl := cell_lt hbxr
      by_cases hlast : i = N + 1
      · have HS2 := Lib.hid (hs2 hlast); clear hs1 hs2
        go_wp2
        go_ret2
        have hN := HN.out
        subst hN
        have hsrt := HS2.out
        rw [listF_getD] at hsrt
        have hlen := msort_length xs
        refine ⟨_, rfl, (HOWN.out.rebuild hkeep HROW.out hlen ?_).mono (fun j hj => by simp [Value.ownBlock] at hj; omega), HBW.out⟩
        intro j hj
        rw [← hsrt.eq_msort]
        have hj2 : j < (listF D 0 xs.length).length := by rw [listF_length]; omega
        simp [listF, hj]
      · have HS1 := Lib.hid (hs1 (by omega)); clear hs1 hs2
        have hfr := HS1.out.hf
        by_cases hiN2 : i = N
        · obtain rfl : N = i := hiN2.symm
          have hii : ((N : Int) == (N : Int)) = true := by simp
          by_cases hfi : fr = N
          · obtain rfl : N = fr := hfi.symm
            by_cases hcf : N = cap
            · obtain rfl : N = cap := hcf
              go_wp2
              go_quiet (fail)
              go_wp2_with fail
              refine (sortStable_none _ _ _ _).mono ?_
              rintro e w3 ⟨rfl, rfl⟩
              go_wp2
              go_roundw
              case rel =>
                refine ⟨N + 1, N + 1, D, rfl, by go_num, by omega, HROW.out, hkeep.trans (KeepR.of_drewN _ _ _ _ _), fun h => by omega, fun _ => ?_⟩
                have := HS1.out.seg (D' := D) (E := fun j => D (N + j)) (fun _ _ => rfl) (fun j hj => by omega) (Arr.refl _ _ _) (RiseF.empty _ (by omega))
                exact this
              case measure => (simp [intOf]; try omega)
            · have hcf' : ¬ cap = N := fun h => hcf h.symm
              clear hcf
              go_wp2
              go_quiet (fail)
              go_wp2_with fail
              refine (sortStable_none _ _ _ _).mono ?_
              rintro e w3 ⟨rfl, rfl⟩
              go_wp2
              go_roundw
              case rel =>
                refine ⟨N + 1, N + 1, D, rfl, by go_num, by omega, HROW.out, hkeep.trans (KeepR.of_drewN _ _ _ _ _), fun h => by omega, fun _ => ?_⟩
                have := HS1.out.seg (D' := D) (E := fun j => D (N + j)) (fun _ _ => rfl) (fun j hj => by omega) (Arr.refl _ _ _) (RiseF.empty _ (by omega))
                exact this
              case measure => (simp [intOf]; try omega)
          · have hcf : ¬ cap = fr := by omega
            go_wp2
            go_quiet (fail)
            go_wp2_with fail
            have hRS := Lib.hid (RowF.sub (f := fr) (n := N - fr) (HROW.out) (by omega))
            refine (sortStable_any g fr (N - fr) (cap - fr) w.heap.size _ _ HI.out _ ⟨HBW.out.drewN _, hbxr⟩ hRS.out (by omega) (by omega) (by simpa using hgw)).mono ?_
            rintro e w3 ⟨rfl, E, hrE, hkE, haE, hriseE⟩
            have HE := Lib.hid (And.intro hrE (And.intro hkE (And.intro haE hriseE)))
            clear hrE hkE haE hriseE
            go_wp2
            go_roundw
            case rel =>
              obtain ⟨hrE, hkE, haE, hriseE⟩ := HE.out
              have hkF := (hkeep.trans (KeepR.of_drewN _ _ _ _ _)).trans (hkE.widen (N := N) (by omega))
              have hrF := RowF.patch (HROW.out.drewN _) hkE hrE
              refine ⟨N + 1, N + 1, _, by go_num, by go_num, by omega, hrF, hkF, fun h => by omega, fun _ => ?_⟩
              have hseg := HS1.out.seg (D' := fun p => if fr ≤ p ∧ p < fr + (N - fr) then E (p - fr) else D p) (E := E) (fun p hp => by rw [if_neg (by omega)]) (fun j hj => by rw [if_pos (by omega)]; congr 1; omega) haE hriseE
              exact hseg
            case measure => (simp [intOf]; try omega)
        · obtain ⟨ca, fa⟩ := HROW.out i (by omega)
          rw [Nat.zero_add] at ca fa
          obtain ⟨r, hr⟩ : ∃ r, D i = r := ⟨_, rfl⟩
          rw [hr] at ca
          have HRR := Lib.hid hr; clear hr
          have i1 : (0 : Int) ≤ (i : Int) := by omega
          have i2 : (i : Int) < (N : Int) := by omega
          have i3 : ((i : Int) == (N : Int)) = false := by simp; omega
          by_cases hr0 : cls r = 0
          · have hr0' : (cls r == 0) = true := by simp [hr0]
            have hri : cls (xs.getD i 0) = 0 := by
              have := HS1.out.same i hfr
              rw [← this, HRR.out]; exact hr0
            have HRI := Lib.hid hri; clear hri hr0
            by_cases hfi : fr = i
            · obtain rfl : i = fr := hfi.symm
              have hcf : ¬ cap = i := by omega
              go_wp2
              go_region_held3 (fun w' => w'.cell? ⟨g, i, none⟩ = some (.int .i32 r) ∧ w'.cell? ⟨w.heap.size, 0, none⟩ = some (.iface T x)) (first | go_keep | (refine ⟨?_, ?_⟩ <;> (rw [hb1.cell (by simp; omega)]; assumption)))
                (first | (go_at_fn f; refine (HC.out.call _ ?_ _).mono ?_; exact HBW.out.drew; rintro e w2 ⟨rfl, hb1⟩))
              have hk2 := (hkeep.trans (KeepR.of_drew _ _ _ _)).trans (KeepR.of_below (blk := g) (off := 0) (n := N) hb1 rfl (by simp; omega))
              have hr2 := Lib.hid (HROW.out.drew.below hb1 (by simp; omega))
              have hbw2 := Lib.hid (HBW.out.drew.trans (hb1.mono (by simp; omega)))
              have hbx2 : w2.cell? ⟨w.heap.size, 0, none⟩ = some (.iface T x) := (hb1.cell (p := ⟨w.heap.size, 0, none⟩) (by simp; omega)).trans hbxr
              have hg2 := hb1.size
              simp only [World.size_drew] at hg2
              go_wp2_with fail
              refine (sortStable_none _ _ _ _).mono ?_
              rintro e w3 ⟨rfl, rfl⟩
              go_wp2
              go_roundw
              case rel =>
                refine ⟨i + 1, i + 1, D, by go_num, by go_num, by omega, hr2.out, hk2, fun _ => ?_, fun h => by omega⟩
                exact HS1.out.next (D' := D) (E := fun j => D (i + j)) (fun _ _ => rfl) (fun j hj => by omega) (Arr.refl _ _ _) (RiseF.empty _ (by omega)) HRI.out
              case measure => (simp [intOf]; try omega)
            · have hcf : ¬ cap = fr := by omega
              have hfl : fr ≤ i := hfr
              go_wp2
              go_region_held3 (fun w' => w'.cell? ⟨g, i, none⟩ = some (.int .i32 r) ∧ w'.cell? ⟨w.heap.size, 0, none⟩ = some (.iface T x)) (first | go_keep | (refine ⟨?_, ?_⟩ <;> (rw [hb1.cell (by simp; omega)]; assumption)))
                (first | (go_at_fn f; refine (HC.out.call _ ?_ _).mono ?_; exact HBW.out.drew; rintro e w2 ⟨rfl, hb1⟩))
              have hk2 := (hkeep.trans (KeepR.of_drew _ _ _ _)).trans (KeepR.of_below (blk := g) (off := 0) (n := N) hb1 rfl (by simp; omega))
              have hr2 := Lib.hid (HROW.out.drew.below hb1 (by simp; omega))
              have hbw2 := Lib.hid (HBW.out.drew.trans (hb1.mono (by simp; omega)))
              have hbx2 : w2.cell? ⟨w.heap.size, 0, none⟩ = some (.iface T x) := (hb1.cell (p := ⟨w.heap.size, 0, none⟩) (by simp; omega)).trans hbxr
              have hg2 := hb1.size
              simp only [World.size_drew] at hg2
              go_wp2_with fail
              have hRS := Lib.hid (RowF.sub (f := fr) (n := i - fr) (hr2.out) (by omega))
              refine (sortStable_any g fr (i - fr) (cap - fr) w.heap.size _ _ HI.out _ ⟨hbw2.out, hbx2⟩ hRS.out (by omega) (by omega) (by omega)).mono ?_
              rintro e w3 ⟨rfl, E, hrE, hkE, haE, hriseE⟩
              have HE := Lib.hid (And.intro hrE (And.intro hkE (And.intro haE hriseE)))
              clear hrE hkE haE hriseE
              go_wp2
              go_roundw
              case rel =>
                obtain ⟨hrE, hkE, haE, hriseE⟩ := HE.out
                have hkF := hk2.trans (hkE.widen (N := N) (by omega))
                have hrF := RowF.patch hr2.out hkE hrE
                refine ⟨i + 1, i + 1, _, by go_num, by go_num, by omega, hrF, hkF, fun _ => ?_, fun h => by omega⟩
                exact HS1.out.next (D' := fun p => if fr ≤ p ∧ p < fr + (i - fr) then E (p - fr) else D p) (E := E) (fun p hp => by rw [if_neg (by omega)]) (fun j hj => by rw [if_pos (by omega)]; congr 1; omega) haE hriseE HRI.out
              case measure => (simp [intOf]; try omega)
          · have hr0' : (cls r == 0) = false := by simp [hr0]
            go_wp2
            go_region_held3 (fun w' => w'.cell? ⟨g, i, none⟩ = some (.int .i32 r) ∧ w'.cell? ⟨w.heap.size, 0, none⟩ = some (.iface T x)) (first | go_keep | (refine ⟨?_, ?_⟩ <;> (rw [hb1.cell (by simp; omega)]; assumption)))
              (first | (go_at_fn f; refine (HC.out.call _ ?_ _).mono ?_; exact HBW.out.drew; rintro e w2 ⟨rfl, hb1⟩))
            go_wp2
            go_roundw
            case rel => 
              have hk2 := (hkeep.trans (KeepR.of_drew _ _ _ _)).trans (KeepR.of_below hb1 rfl (by simp; omega))
              refine ⟨i + 1, fr, D, rfl, by go_num, by omega, (HROW.out.drew.below hb1 (by simp; omega)), hk2, fun _ => HS1.out.mark ?_, fun h => by omega⟩
              have := HS1.out.same i hfr
              rw [← this, HRR.out]; exact hr0
            case measure => (simp [intOf]; try omega)

end Go.Proofs.YtplobpelhcagpaaDoor
