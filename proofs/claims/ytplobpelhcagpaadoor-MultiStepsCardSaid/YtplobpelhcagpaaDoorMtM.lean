/-
  Multi: mapfile.Pick; what its iterator goes through.
-/
import Derived.Test.YtplobpelhcagpaaDoorMtB
import Derived.Test.YtplobpelhcagpaaDoorLibQ
import Derived.RangeFuncNested
import Derived.RangeFuncBound
import Derived.RangeFuncCalls
import Derived.RangeFuncLeaves
import Derived.RangeFuncFrom
import Derived.Shelf.Abstract
import Derived.Shelf.RegionOpen
import Derived.OwnWalkIn
import Derived.TacticsInMore
import Derived.LoopNIn
import Derived.LoopIn
import Derived.RangeFuncSeq
import Derived.RangeFuncBox
import Derived.ControlIn
import Derived.Sort.CutIn
namespace Go.Proofs.YtplobpelhcagpaaDoor
open Go.RowKit Go.Shelf Pl14
attribute [local go_sem] Oper.semAt_some

/-- the rows for decoding, of the first i, with their places -/
def pickL (rs : List MRow) : Nat → List (Nat × MRow)
  | 0 => []
  | i + 1 => pickL rs i ++ (if (rs.getD i mr0).2.2 = 0 ∨ (rs.getD i mr0).2.2 = 3 then [(i, rs.getD i mr0)] else [])
theorem pickL_len (rs : List MRow) : ∀ i, (pickL rs i).length ≤ i
  | 0 => Nat.le_refl _
  | i + 1 => by
    have := pickL_len rs i
    unfold pickL
    rw [List.length_append]
    split <;> simp <;> omega
def encR (x : Nat × MRow) : Array Value := #[.int .i64 x.1, rowV x.2.1 x.2.2.1 x.2.2.2]

set_option maxRecDepth 100000 in
theorem pick_any (a : Option Addr) (m c : Nat) (w : World) : Calls Tryd.prog 40 #[.int .i64 3, .slice a m c] w fun e w' =>
    e = .returned (.func (.func 53) #[] #[.pointer (some ⟨w.heap.size, 0, none⟩), .pointer (some ⟨w.heap.size + 1, 0, none⟩)]) ∧ w' = (w.alloc (.cells #[.int .i64 3] 3)).alloc (.cells #[.slice a m c] 22) := by
  go_enter Tryd.func40, Tryd.ntmps40
  go_wp2
  go_ret
  exact ⟨rfl, rfl⟩

theorem keep_cell {S : Nat → Prop} {w w' : World} {b o : Nat} {v : Value} (hk : Keep S w w') (h : w.cell? ⟨b, o, none⟩ = some v) (hs : ¬ S b) : w'.cell? ⟨b, o, none⟩ = some v :=
  (World.cell?_of_block (w := w) (a := ⟨b, o, none⟩) (hk.block b (cell_lt h) hs)).trans h
theorem RdM.keep {S : Nat → Prop} {w w' : World} {v : Value} {rs : List MRow} (h : RdM w v rs) (hk : Keep S w w') (hs : ∀ j, rs ≠ [] → j < w.heap.size → v.ownBlock = some j → ¬ S j) : RdM w' v rs := by
  obtain ⟨a, cap, hv, h1, h2, h0, h3⟩ := h
  refine ⟨a, cap, hv, h1, h2, h0, ?_⟩
  by_cases hne : rs = []
  · exact .inl hne
  rcases h3 with h3 | ⟨b, off, ha, hc⟩
  · exact .inl h3
  · exact .inr ⟨b, off, ha, fun k u hk' => keep_cell hk (hc k u hk') (hs b hne (cell_lt (hc k u hk')) (by rw [hv, ha]; rfl))⟩
theorem RdM.lt {w : World} {v : Value} {rs : List MRow} (h : RdM w v rs) (hne : rs ≠ []) : ∀ j, v.ownBlock = some j → j < w.heap.size := by
  obtain ⟨a, cap, rfl, h1, h2, h0, h3⟩ := h
  rcases h3 with h3 | ⟨b, off, rfl, hc⟩
  · exact absurd h3 hne
  · intro j hj
    simp [Value.ownBlock] at hj
    subst hj
    cases rs with
    | nil => exact absurd rfl hne
    | cons r rs => exact cell_lt (hc 0 (.string r.1) rfl)

set_option maxRecDepth 100000 in
set_option maxHeartbeats 4000000 in
theorem pick_stops (n : Nat) (hn : 3 ≤ n) (A B X : Nat) (vl : Value) (rs : List MRow) (w : World) (hA : w.cell? ⟨A, 0, none⟩ = some (.int .i64 3)) (hB : w.cell? ⟨B, 0, none⟩ = some vl) (hR : RdM w vl rs) (hXA : A ≠ X) (hXB : B ≠ X) (hXV : ∀ j, rs ≠ [] → vl.ownBlock = some j → j ≠ X) :
    SeqStopsK Fence.wide n Tryd.prog 53 #[.pointer (some ⟨A, 0, none⟩), .pointer (some ⟨B, 0, none⟩)] encR (Keep (fun j => j = X ∨ w.heap.size ≤ j)) (fun xs => xs = pickL rs rs.length) (fun _ => True) rs.length w := fun yl J Jx W hW hJ hJx hY h0 => by
  obtain ⟨N, hN⟩ : ∃ N, w.heap.size = N := ⟨_, rfl⟩
  have HR := Lib.hid hR
  have HXV := Lib.hid hXV; clear hXV
  obtain ⟨sa, scap, rfl, hs1, hs2, -, -⟩ := hR
  obtain ⟨k, hk⟩ : ∃ k, rs.length = k := ⟨_, rfl⟩
  rw [hk] at hs1 HR hY hB HXV ⊢
  have hlA := cell_lt hA
  have hlB := cell_lt hB
  rw [hN] at hW hY hlA hlB
  have HA := Lib.hid hA; clear hA
  have HB := Lib.hid hB; clear hB
  have HY := Lib.hid hY; clear hY
  have HNW := Lib.hid hN
  have HK := Lib.hid hk; clear hk
  have hcA := (hW.cell (p := ⟨A, 0, none⟩) hlA).trans HA.out
  have hcB := (hW.cell (p := ⟨B, 0, none⟩) hlB).trans HB.out
  refine callsIn_of_wp Tryd.func53 rfl trivial ?_ rfl
  simp only [Tryd.ntmps53, List.size_toArray, List.length_cons, List.length_nil, Nat.reduceAdd, Nat.reduceSub, Array.replicate_succ, Array.replicate_zero, List.push_toArray, List.append_toArray, List.nil_append, List.cons_append]
  clear hN
  have HJ0 := Lib.hid h0; clear h0
  have HW := Lib.hid (show Keep (fun j => j = X ∨ N ≤ j) w W from Keep.of_below hW (by rw [HNW.out])); clear hW
  gi_wp2_with fail
  gi_loopw [18] (fun s18 wr => ∃ i : Nat, s18 = .int .i64 i ∧ i ≤ k ∧ J (pickL rs i) wr ∧ Keep (fun j => j = X ∨ N ≤ j) w wr) (fun s18 _ => k - (intOf s18).toNat)
  case atStart => exact ⟨0, rfl, Nat.zero_le _, HJ0.out, HW.out⟩
  case round =>
    obtain ⟨i, rfl, hi, hJi, hBi⟩ := hrel
    have HJi := Lib.hid hJi; clear hJi
    have HBi := Lib.hid hBi; clear hBi
    by_cases hlt : i < k
    · have hir : i < rs.length := by rw [HK.out]; exact hlt
      obtain ⟨b1, o1, rfl, c0, c1, c2⟩ := (HR.out.keep HBi.out (fun j hne hj e => by have := HXV.out j hne e; rw [HNW.out] at hj; omega)).at hir
      obtain ⟨r, hr⟩ : ∃ r, rs.getD i mr0 = r := ⟨_, rfl⟩
      rw [hr] at c0 c1 c2
      have HPL := Lib.hid (show pickL rs (i + 1) = pickL rs i ++ (if r.2.2 = 0 ∨ r.2.2 = 3 then [(i, r)] else []) from by rw [← hr]; rfl)
      obtain ⟨rc, rt, rf⟩ := r
      simp only at c0 c1 c2
      clear hr hir
      gi_upto_region 4 with fail
      obtain ⟨q, hq⟩ : ∃ q, wr.heap.size = q := ⟨_, rfl⟩
      obtain ⟨wc, hwc⟩ : ∃ wc, wr.alloc (.cells #[.string rc, .string rt, .int .i64 rf] 47) = wc := ⟨_, rfl⟩
      have hbn : Below wr.heap.size wr wc := by rw [← hwc]; exact (Below.refl _ _).alloc (Nat.le_refl _) _
      have hqc : Blk wc q #[.string rc, .string rt, .int .i64 rf] 47 := by rw [← hwc, ← hq]; exact Blk.new _ _ _
      have q0 : wc.cell? ⟨q, 0, none⟩ = some (.string rc) := by have := hqc.cell 0; simpa using this
      have q1 : wc.cell? ⟨q, 1, none⟩ = some (.string rt) := by have := hqc.cell 1; simpa using this
      have q2 : wc.cell? ⟨q, 2, none⟩ = some (.int .i64 rf) := by have := hqc.cell 2; simpa using this
      have HBc := Lib.hid (show Keep (fun j => j = X ∨ N ≤ j) wr wc from Keep.of_below hbn rfl)
      have cA : wc.cell? ⟨A, 0, none⟩ = some (.int .i64 3) := by
        exact keep_cell (HBi.out.trans HBc.out (fun _ _ h => h)) HA.out (by omega)
      have HJc := Lib.hid (show J (pickL rs i) wc from hJ _ wr wc none HJi.out (below_grown hbn) (by simp))
      have HBc := Lib.hid (HBi.out.trans HBc.out (fun _ _ h => h))
      rw [hq, hwc]
      clear hwc c0 c1 c2 hbn hqc hq
      by_cases h0 : rf = 0
      · have e0 : (rf == 0) = true := by simp [h0]
        have hyy := HY.out (pickL rs i) (i, (rc, rt, rf)) wc HJc.out (by have := pickL_len rs i; omega)
        unfold encR rowV at hyy
        obtain ⟨fn, tmps, assign, body, hy, hRn⟩ := hyy
        have HP2 := Lib.hid (show pickL rs (i + 1) = pickL rs i ++ [(i, (rc, rt, rf))] from by rw [HPL.out, if_pos (.inl h0)])
        clear h0
        gi_wp2
        refine ⟨fun _ => by omega, hRn.mono ?_⟩
        rintro e W3 (⟨rfl, hJ3, hk3⟩ | ⟨rfl, hJx3⟩)
        · gi_wp2
          go_roundw
          case rel => exact ⟨i + 1, by go_num, by omega, by rw [HP2.out]; exact hJ3, HBc.out.trans hk3 (fun _ _ h => h)⟩
          case measure => simp [intOf]; omega
        · gi_wp2
          refine bodyPost_ret (results_none rfl _ _ _) rfl ?_
          exact ⟨⟨_, rfl⟩, .inr ⟨_, trivial, hJx3⟩⟩
      · have e0 : (rf == 0) = false := by simp [h0]
        by_cases h3 : rf = 3
        · have e3 : (rf == 3) = true := by simp [h3]
          have hyy := HY.out (pickL rs i) (i, (rc, rt, rf)) wc HJc.out (by have := pickL_len rs i; omega)
          unfold encR rowV at hyy
          obtain ⟨fn, tmps, assign, body, hy, hRn⟩ := hyy
          have HP2 := Lib.hid (show pickL rs (i + 1) = pickL rs i ++ [(i, (rc, rt, rf))] from by rw [HPL.out, if_pos (.inr h3)])
          clear h0 h3
          gi_wp2
          refine ⟨fun _ => by omega, hRn.mono ?_⟩
          rintro e W3 (⟨rfl, hJ3, hk3⟩ | ⟨rfl, hJx3⟩)
          · gi_wp2
            go_roundw
            case rel => exact ⟨i + 1, by go_num, by omega, by rw [HP2.out]; exact hJ3, HBc.out.trans hk3 (fun _ _ h => h)⟩
            case measure => simp [intOf]; omega
          · gi_wp2
            refine bodyPost_ret (results_none rfl _ _ _) rfl ?_
            exact ⟨⟨_, rfl⟩, .inr ⟨_, trivial, hJx3⟩⟩
        · have e3 : (rf == 3) = false := by simp [h3]
          have HP2 := Lib.hid (show pickL rs (i + 1) = pickL rs i from by rw [HPL.out, if_neg (by simp only; omega), List.append_nil])
          clear h0 h3
          gi_wp2
          refine ⟨fun _ h => (by cases h), ?_⟩
          gi_wp2
          go_roundw
          case rel => exact ⟨i + 1, by go_num, by omega, by rw [HP2.out]; exact HJc.out, HBc.out⟩
          case measure => simp [intOf]; omega
    · have hiN : i = k := by omega
      have HPE := Lib.hid (show pickL rs i = pickL rs k from by rw [hiN])
      clear hiN
      gi_wp2
      go_end0
      exact ⟨⟨_, rfl⟩, .inl ⟨_, rfl, by rw [← HPE.out]; exact HJi.out⟩⟩

end Go.Proofs.YtplobpelhcagpaaDoor
