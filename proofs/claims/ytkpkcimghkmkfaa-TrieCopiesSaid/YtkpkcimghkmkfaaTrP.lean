/-
  Layer 6 (trie): the iterator that All hands back.
-/
import Derived.Test.YtkpkcimghkmkfaaTrO
namespace Go.Proofs.Ytkpkcimghkmkfaa
open Go.RowKit Go.Shelf
attribute [local go_sem] Oper.semAt_some

theorem belowN_b {w : World} {N : Nat} (hN : N ≤ w.heap.size) (W : World) (l : Nat) (o o' : Obj) (h1 : w.heap.size ≤ l) (_ : W.heap[l]? = some o) (_ : o.isCells = false) (_ : o.isWalk = false) : Below N W (W.putObj l o') := by
  have hg := grownBy_putObj' W l o'
  exact ⟨hg.os, hg.tape, hg.output, hg.size, fun k hk => by
    by_cases e : k < W.heap.size
    · exact hg.block k e (fun e' => by cases e'; omega)
    · have h2 : W.heap.size = (W.putObj l o').heap.size := by simp [World.putObj]
      rw [Array.getElem?_eq_none (by omega), Array.getElem?_eq_none (by omega)]⟩

/-- what All has handed back: the longest ranges l, in two slices, in the boxes A and B -/
structure AllAt (w : World) (A B : Nat) (l : List Pc) : Prop where
  ex : ∃ base vl vv, Boxed w A 64 vl ∧ w.ownsRow base 39 2 vl l.length (flat cells2 l) ∧ Boxed w B 65 vv ∧ w.ownsRow base 3 1 vv l.length (l.map valP)
theorem AllAt.below {w w' : World} {A B N : Nat} {l : List Pc} (h : AllAt w A B l) (hb : Below N w w') (hN : N = w.heap.size) : AllAt w' A B l := by
  obtain ⟨base, vl, vv, h1, h2, h3, h4⟩ := h.ex
  subst hN
  have hg := below_grown hb
  exact ⟨base, vl, vv, h1.kept hg (by simp), h2.kept hg (by cases h : vl.ownBlock <;> simp), h3.kept hg (by simp), h4.kept hg (by cases h : vv.ownBlock <;> simp)⟩

set_option maxRecDepth 100000 in
set_option maxHeartbeats 4000000 in
theorem all_stops (n : Nat) (hn : 3 ≤ n) (A B : Nat) (l : List Pc) (w : World) (hA : AllAt w A B l) (hl : l.length ≤ 1114112) :
    SeqStopsK Fence.wide n Try.prog 30 #[.pointer (some ⟨A, 0, none⟩), .pointer (some ⟨B, 0, none⟩)] encP (Below w.heap.size) (fun xs => xs = l) (fun pre => pre <+: l) l.length w := fun yl J Jx W hW hJ hJx hY h0 => by
  obtain ⟨N, hN⟩ : ∃ N, w.heap.size = N := ⟨_, rfl⟩
  have HAT := Lib.hid hA
  obtain ⟨base, vl, vv, b1, r1, b2, r2⟩ := hA.ex
  obtain ⟨k, hk⟩ : ∃ k, l.length = k := ⟨_, rfl⟩
  rw [hk] at r1 r2 hY hl
  obtain ⟨ad, cap, rfl, hc1, hc2, had⟩ := ownsRow_shapeN r1
  obtain ⟨ad2, cap2, rfl, hd1, hd2, had2⟩ := ownsRow_shapeN r2
  have hlA := b1.lt
  have hlB := b2.lt
  rw [hN] at hW hY hlA hlB
  have hWs := hW.size
  have hcA := (hW.cell (p := ⟨A, 0, none⟩) hlA).trans b1.cell
  have B1 := Lib.hid b1; clear b1
  have B2 := Lib.hid b2; clear b2
  have R1 := Lib.hid r1; clear r1
  have R2 := Lib.hid r2; clear r2
  have HAD := Lib.hid had; clear had
  have HAD2 := Lib.hid had2; clear had2
  have HY := Lib.hid hY; clear hY
  have HNW := Lib.hid hN
  have HK := Lib.hid hk; clear hk
  clear hA
  refine callsIn_of_wp Try.func30 rfl trivial ?_ rfl
  simp only [Try.ntmps30, List.size_toArray, List.length_cons, List.length_nil, Nat.reduceAdd, Nat.reduceSub, Array.replicate_succ, Array.replicate_zero, List.push_toArray, List.append_toArray, List.nil_append, List.cons_append]
  clear hN
  have HJ0 := Lib.hid h0; clear h0
  have HW := Lib.hid hW; clear hW
  gi_wp2_with fail
  gi_loopw [8] (fun s8 wr => ∃ i : Nat, s8 = .int .i64 i ∧ i ≤ k ∧ J (l.take i) wr ∧ Below N w wr) (fun s8 _ => k - (intOf s8).toNat)
  case atStart => exact ⟨0, rfl, Nat.zero_le _, by simpa using HJ0.out, HW.out⟩
  case round =>
    obtain ⟨i, rfl, hi, hJi, hBi⟩ := hrel
    have HJi := Lib.hid hJi; clear hJi
    by_cases hlt : i < k
    · obtain ⟨g, rfl⟩ : ∃ g, ad = some ⟨g, 0, none⟩ := by
        rcases HAD.out with ⟨_, _, h0⟩ | ⟨g, h, _⟩
        · omega
        · exact ⟨g, h⟩
      obtain ⟨g2, rfl⟩ : ∃ g, ad2 = some ⟨g, 0, none⟩ := by
        rcases HAD2.out with ⟨_, _, h0⟩ | ⟨g, h, _⟩
        · omega
        · exact ⟨g, h⟩
      have hki : i < l.length := by rw [HK.out]; exact hlt
      obtain ⟨x, hx⟩ : ∃ x, l[i] = x := ⟨_, rfl⟩
      have hgd : ∀ d, l.getD i d = x := fun d => by rw [List.getD_eq_getElem?_getD, List.getElem?_eq_getElem hki, hx]; rfl
      have hti : l.take (i + 1) = l.take i ++ [x] := by rw [List.take_succ_eq_append_getElem hki, hx]
      have hgl : g < N := by rw [← HNW.out]; exact (R1.out.lt g rfl).2
      have hgl2 : g2 < N := by rw [← HNW.out]; exact (R2.out.lt g2 rfl).2
      have c0 : wr.cell? ⟨g, i * 2, none⟩ = some (.int .i32 (x.1.val : Int)) := by
        rw [hBi.cell (p := ⟨g, i * 2, none⟩) hgl, R1.out.cellAt _ (by omega)]
        have := flat_at cells2_len x l i 0 hki (by omega)
        rw [Nat.add_zero, hgd] at this
        rw [this]; rfl
      have c1 : wr.cell? ⟨g, i * 2 + 1, none⟩ = some (.int .i32 (x.2.1.val : Int)) := by
        rw [hBi.cell (p := ⟨g, i * 2 + 1, none⟩) hgl, R1.out.cellAt _ (by omega), flat_at cells2_len x l i 1 hki (by omega), hgd]; rfl
      have c2 : wr.cell? ⟨g2, i, none⟩ = some (.int .i64 x.2.2) := by
        rw [hBi.cell (p := ⟨g2, i, none⟩) hgl2, R2.out.cellAt _ (by omega), List.getElem?_map, List.getElem?_eq_getElem hki, hx]; rfl
      have cB : wr.cell? ⟨B, 0, none⟩ = some (.slice (some ⟨g2, 0, none⟩) k cap2) := (hBi.cell (p := ⟨B, 0, none⟩) hlB).trans B2.out.cell
      have i1 : (0 : Int) ≤ (i : Int) := by omega
      have i2 : (i : Int) < (k : Int) := by omega
      have HTI := Lib.hid hti; clear hti
      have HGD := Lib.hid hgd; clear hgd
      have HXX := Lib.hid hx; clear hx
      have HBi := Lib.hid hBi; clear hBi
      gi_upto_region 3 with fail
      obtain ⟨q, hq⟩ : ∃ q, wr.heap.size = q := ⟨_, rfl⟩
      obtain ⟨wc, hwc⟩ : ∃ wc, wr.alloc (.cells #[.int .i32 (x.1.val : Int), .int .i32 (x.2.1.val : Int)] 39) = wc := ⟨_, rfl⟩
      have hbn : Below wr.heap.size wr wc := by rw [← hwc]; exact (Below.refl _ _).alloc (Nat.le_refl _) _
      have hqc : Blk wc q #[.int .i32 (x.1.val : Int), .int .i32 (x.2.1.val : Int)] 39 := by rw [← hwc, ← hq]; exact Blk.new _ _ _
      have q0 := hqc.cell 0
      have q1 := hqc.cell 1
      simp at q0 q1
      have d2 : wc.cell? ⟨g2, i, none⟩ = some (.int .i64 x.2.2) := (hbn.cell (p := ⟨g2, i, none⟩) (cell_lt c2)).trans c2
      have dB : wc.cell? ⟨B, 0, none⟩ = some (.slice (some ⟨g2, 0, none⟩) k cap2) := (hbn.cell (p := ⟨B, 0, none⟩) (cell_lt cB)).trans cB
      have hJc : J (l.take i) wc := hJ _ wr wc none HJi.out (below_grown hbn) (by simp)
      have hBc : Below N w wc := HBi.out.trans (hbn.mono (by have := HBi.out.size; have := HNW.out; omega))
      rw [hq, hwc]
      clear hwc c0 c1 c2 cB hbn hqc hq
      have HBc := Lib.hid hBc; clear hBc
      have hyy := HY.out (l.take i) x wc.drew (hJ _ wc _ none hJc ⟨rfl, rfl, rfl, Nat.le_refl _, fun _ _ _ => rfl⟩ (by simp)) (by simp; omega)
      unfold encP at hyy
      clear hJc
      obtain ⟨fn, tmps, assign, body, hy, hRn⟩ := hyy
      have hRn' : RoundIn Fence.wide (n - 1) Try.prog yl fn tmps assign body wc.drew (fun e W' => ∃ c : Bool, e = .returned (.bool c) ∧ ((c = true ∧ J (l.take i ++ [x]) W' ∧ Below N wc.drew W') ∨ (c = false ∧ Jx (l.take i ++ [x]) W'))) :=
        hRn.mono (by
          rintro e W' (⟨rfl, h1, h2⟩ | ⟨rfl, h1⟩)
          · exact ⟨true, rfl, .inl ⟨rfl, h1, h2⟩⟩
          · exact ⟨false, rfl, .inr ⟨rfl, h1⟩⟩)
      have HRn := Lib.hid hRn'; clear hRn' hRn
      have hti := HTI.out
      have HTI' := Lib.hid hti; clear hti
      refine wpIn_region_any (by kernel_rfl) ?_
      change wpAnyIn _ _ _ _ _ _ _ _ _ (World.drew _)
      refine wpAnyIn_takeD (i := 0) (d := some 13) (v := ?_) rfl rfl rfl (by kernel_rfl) (by kernel_rfl) (by kernel_rfl) (fun _ _ _ h => h) ⟨Or.inl ⟨by rfl, ?_⟩, fun _ => rfl⟩ ?_
      rotate_left
      · intro w; go_simp; all_goals (with_reducible rfl)
      simp only [Act.put, List.setIfInBounds_toArray, List.set_cons_zero, List.set_cons_succ]
      refine wpAnyIn_takeD (i := 3) (d := some 16) (v := ?_) rfl rfl rfl (by kernel_rfl) (by kernel_rfl) (by kernel_rfl) (fun _ _ _ h => h) ⟨Or.inl ⟨by rfl, ?_⟩, fun _ => rfl⟩ ?_
      rotate_left
      · intro w; go_simp; all_goals (with_reducible rfl)
      simp only [Act.put, List.setIfInBounds_toArray, List.set_cons_zero, List.set_cons_succ]
      refine wpAnyIn_ready (rs := [1, 2]) (by kernel_rfl) (by simp) ?_
      refine AllReadyIn.cons rfl (fun K hK => ?_) (AllReadyIn.cons rfl (fun K hK => ?_) AllReadyIn.nil)
      · go_simp
        refine hK _ _ ?_
        clear hK K
        refine wpAnyIn_ready (rs := [2]) (by kernel_rfl) (by simp) ?_
        refine AllReadyIn.cons rfl (fun K hK => ?_) AllReadyIn.nil
        go_simp
        refine hK _ _ ?_
        clear hK K
        refine wpAnyIn_takeD (i := 4) (d := some 17) (v := ?_) rfl rfl rfl (by kernel_rfl) (by kernel_rfl) (by kernel_rfl) (fun _ _ _ h => h) ⟨Or.inl ⟨by rfl, ?_⟩, fun _ => rfl⟩ ?_
        rotate_left
        · intro w; go_simp; all_goals (with_reducible rfl)
        simp only [Act.put, List.setIfInBounds_toArray, List.set_cons_zero, List.set_cons_succ]
        refine wpAnyIn_ready (rs := [5]) (by kernel_rfl) (by simp) ?_
        refine AllReadyIn.cons rfl (fun K hK => ?_) AllReadyIn.nil
        go_simp
        refine hK _ _ ?_
        clear hK K
        refine wpAnyIn_ready (rs := [6]) (by kernel_rfl) (by simp) ?_
        refine AllReadyIn.cons rfl (fun K hK => ?_) AllReadyIn.nil
        go_simp
        refine ⟨fun _ => by omega, HRn.out.mono ?_⟩
        rintro e W5 ⟨c, rfl, hor⟩
        dsimp only
        refine hK _ _ ?_
        clear hK K
        try simp only [Act.put, List.setIfInBounds_toArray, List.set_cons_zero, List.set_cons_succ]
        refine wpAnyIn_takeD (i := 7) (d := some 20) (v := ?_) rfl rfl rfl (by kernel_rfl) (by kernel_rfl) (by kernel_rfl) (fun _ _ _ h => h) ⟨Or.inl ⟨by rfl, ?_⟩, fun _ => rfl⟩ ?_
        rotate_left
        · intro w; go_simp; all_goals (with_reducible rfl)
        simp only [Act.put, List.setIfInBounds_toArray, List.set_cons_zero, List.set_cons_succ]
        refine wpAnyIn_done (by kernel_rfl) ?_ _
        rcases hor with ⟨rfl, hJ5, hk5⟩ | ⟨rfl, hJx5⟩
        · gi_wp2
          go_roundw
          case rel => exact ⟨i + 1, by go_num, by omega, by rw [HTI.out]; exact hJ5, HBc.out.trans ⟨hk5.os, hk5.tape, hk5.output, hk5.size, hk5.block⟩⟩
          case measure => simp [intOf]; omega
        · gi_wp2
          refine bodyPost_ret (results_none rfl _ _ _) rfl ?_
          exact ⟨⟨_, rfl⟩, .inr ⟨l.take i ++ [x], by rw [← HTI.out]; exact List.take_prefix _ _, hJx5⟩⟩
      · go_simp
        refine hK _ _ ?_
        clear hK K
        refine wpAnyIn_takeD (i := 4) (d := some 17) (v := ?_) rfl rfl rfl (by kernel_rfl) (by kernel_rfl) (by kernel_rfl) (fun _ _ _ h => h) ⟨Or.inl ⟨by rfl, ?_⟩, fun _ => rfl⟩ ?_
        rotate_left
        · intro w; go_simp; all_goals (with_reducible rfl)
        simp only [Act.put, List.setIfInBounds_toArray, List.set_cons_zero, List.set_cons_succ]
        refine wpAnyIn_ready (rs := [1, 5]) (by kernel_rfl) (by simp) ?_
        refine AllReadyIn.cons rfl (fun K hK => ?_) (AllReadyIn.cons rfl (fun K hK => ?_) AllReadyIn.nil)
        · go_simp
          refine hK _ _ ?_
          clear hK K
          refine wpAnyIn_ready (rs := [5]) (by kernel_rfl) (by simp) ?_
          refine AllReadyIn.cons rfl (fun K hK => ?_) AllReadyIn.nil
          go_simp
          refine hK _ _ ?_
          clear hK K
          refine wpAnyIn_ready (rs := [6]) (by kernel_rfl) (by simp) ?_
          refine AllReadyIn.cons rfl (fun K hK => ?_) AllReadyIn.nil
          go_simp
          refine ⟨fun _ => by omega, HRn.out.mono ?_⟩
          rintro e W5 ⟨c, rfl, hor⟩
          dsimp only
          refine hK _ _ ?_
          clear hK K
          try simp only [Act.put, List.setIfInBounds_toArray, List.set_cons_zero, List.set_cons_succ]
          refine wpAnyIn_takeD (i := 7) (d := some 20) (v := ?_) rfl rfl rfl (by kernel_rfl) (by kernel_rfl) (by kernel_rfl) (fun _ _ _ h => h) ⟨Or.inl ⟨by rfl, ?_⟩, fun _ => rfl⟩ ?_
          rotate_left
          · intro w; go_simp; all_goals (with_reducible rfl)
          simp only [Act.put, List.setIfInBounds_toArray, List.set_cons_zero, List.set_cons_succ]
          refine wpAnyIn_done (by kernel_rfl) ?_ _
          rcases hor with ⟨rfl, hJ5, hk5⟩ | ⟨rfl, hJx5⟩
          · gi_wp2
            go_roundw
            case rel => exact ⟨i + 1, by go_num, by omega, by rw [HTI.out]; exact hJ5, HBc.out.trans ⟨hk5.os, hk5.tape, hk5.output, hk5.size, hk5.block⟩⟩
            case measure => simp [intOf]; omega
          · gi_wp2
            refine bodyPost_ret (results_none rfl _ _ _) rfl ?_
            exact ⟨⟨_, rfl⟩, .inr ⟨l.take i ++ [x], by rw [← HTI.out]; exact List.take_prefix _ _, hJx5⟩⟩
        · go_simp
          refine hK _ _ ?_
          clear hK K
          refine wpAnyIn_ready (rs := [1]) (by kernel_rfl) (by simp) ?_
          refine AllReadyIn.cons rfl (fun K hK => ?_) AllReadyIn.nil
          go_simp
          refine hK _ _ ?_
          clear hK K
          refine wpAnyIn_ready (rs := [6]) (by kernel_rfl) (by simp) ?_
          refine AllReadyIn.cons rfl (fun K hK => ?_) AllReadyIn.nil
          go_simp
          refine ⟨fun _ => by omega, HRn.out.mono ?_⟩
          rintro e W5 ⟨c, rfl, hor⟩
          dsimp only
          refine hK _ _ ?_
          clear hK K
          try simp only [Act.put, List.setIfInBounds_toArray, List.set_cons_zero, List.set_cons_succ]
          refine wpAnyIn_takeD (i := 7) (d := some 20) (v := ?_) rfl rfl rfl (by kernel_rfl) (by kernel_rfl) (by kernel_rfl) (fun _ _ _ h => h) ⟨Or.inl ⟨by rfl, ?_⟩, fun _ => rfl⟩ ?_
          rotate_left
          · intro w; go_simp; all_goals (with_reducible rfl)
          simp only [Act.put, List.setIfInBounds_toArray, List.set_cons_zero, List.set_cons_succ]
          refine wpAnyIn_done (by kernel_rfl) ?_ _
          rcases hor with ⟨rfl, hJ5, hk5⟩ | ⟨rfl, hJx5⟩
          · gi_wp2
            go_roundw
            case rel => exact ⟨i + 1, by go_num, by omega, by rw [HTI.out]; exact hJ5, HBc.out.trans ⟨hk5.os, hk5.tape, hk5.output, hk5.size, hk5.block⟩⟩
            case measure => simp [intOf]; omega
          · gi_wp2
            refine bodyPost_ret (results_none rfl _ _ _) rfl ?_
            exact ⟨⟨_, rfl⟩, .inr ⟨l.take i ++ [x], by rw [← HTI.out]; exact List.take_prefix _ _, hJx5⟩⟩
    · have hik : i = k := by omega
      have i2 : ¬ (i : Int) < (k : Int) := by omega
      gi_wp2
      go_end0
      refine ⟨⟨_, rfl⟩, .inl ?_⟩
      have := HJi.out
      rw [hik, ← HK.out, List.take_length] at this
      first | exact this | exact ⟨l, rfl, this⟩

end Go.Proofs.Ytkpkcimghkmkfaa
