/-
  Layer 6 (trie): the document's answer's Copy.
-/
import Derived.Test.YtkpkcimghkmkfaaTrX
namespace Go.Proofs.Ytkpkcimghkmkfaa
open Go.RowKit Go.Shelf

theorem flat_one (L : List Pc) : ∀ u ∈ flat cells3 L, u.oneCell' = true := by
  intro u hu
  obtain ⟨s, _, hs⟩ := List.mem_flatMap.1 hu
  simp [cells3] at hs
  rcases hs with rfl | rfl | rfl <;> rfl

theorem wp_appendRow {P : Program} {t e : TypeId} {z : Value} {size bytes : Nat} (E : ElemN P t e z size bytes) {w : World} {o : Oper} {a : Act} {K : Act → World → Prop} {Q : Exit → Act → World → Prop} (s x : Operand)
    (ho : o.op = .call { callee := .builtin .append, args := #[s, x], argTypes := #[t, t] }) (hs : a.eval s = .slice none 0 0) (B : Nat) (v : Value) (n : Nat) (xs : List Value) (hx : a.eval x = v) (hown : w.ownsRow B e size v n xs) (h1 : ∀ u ∈ xs, u.oneCell' = true)
    (hn : n ≤ 140737488355328) (hbytes : n * bytes ≤ 140737488355328)
    (h : ∀ v' w', w'.ownsRow w.heap.size e size v' n xs → w.grownBy w' none → K (a.put o.dst v') w') : o.wp P a w K Q := by
  obtain ⟨i, hi, hz, hsz, hby⟩ := E.hi
  rcases hown.2 with ⟨rfl, h0⟩ | ⟨g, cap, cur, rfl, _, _, _⟩
  · have hxs : xs = [] := List.eq_nil_of_length_eq_zero (by rw [hown.1, h0, Nat.zero_mul])
    subst hxs
    subst h0
    have hrun := run_append_owned_none (P := P) (w := w) w.heap.size t o.type e i size E.ht hi (.slice none 0 0) 0 [] (World.ownsRow_nil w _ e size)
    unfold Oper.wp
    simp [execOp, ho, resolve, invoke, builtin, hs, hx, hrun, Result.andThen]
    exact h _ _ (World.ownsRow_nil w _ e size) ⟨rfl, rfl, rfl, Nat.le_refl _, fun _ _ _ => rfl⟩
  · obtain ⟨v', w', hr, h2, h3, _⟩ := run_append_own_at (P := P) w w.heap.size t o.type e i z size bytes E.ht hi hz hsz hby E.hz E.hs (.slice none 0 0) 0 [] (World.ownsRow_nil w _ e size) ⟨g, 0, none⟩ n cap xs hown.1
      (fun j u hj => by
        have hj' := (List.getElem?_eq_some_iff.1 hj).1
        rw [Addr.add_lit, Nat.zero_add, hown.cellAt _ (by rw [← hown.1]; exact hj'), hj]) h1 (by unfold maxLen; omega) (by rw [Nat.zero_add]; exact hbytes) (Nat.le_refl _)
    unfold Oper.wp
    simp [execOp, ho, resolve, invoke, builtin, hs, hx, hr, Result.andThen]
    exact h _ _ (by simpa using h2) h3

set_option maxRecDepth 100000 in
set_option maxHeartbeats 4000000 in
theorem ref_copy (base rb : Nat) (z : Int) (L : List Pc) (v : Value) (w : World) (hR : RefAt w base rb z L v) (hL : L.length ≤ 1000000) :
    Calls Try.prog 19 #[.pointer (some ⟨rb, 0, none⟩)] w fun e w' =>
      ∃ rb' v', e = .returned (.pointer (some ⟨rb', 0, none⟩)) ∧ w.heap.size ≤ rb' ∧ RefAt w' w.heap.size rb' z L v' ∧ Below w.heap.size w w' := by
  have hz0 := hR.blk.cell 0
  have hz1 := hR.blk.cell 1
  simp at hz0 hz1
  have hbl := hR.blk.lt
  have hone : ∀ u ∈ flat cells3 L, u.oneCell' = true := flat_one L
  have hby : L.length * 16 ≤ 140737488355328 := by omega
  have hky : L.length ≤ 140737488355328 := by omega
  obtain ⟨k, hk⟩ : ∃ k, L.length = k := ⟨_, rfl⟩
  obtain ⟨xs, hxs⟩ : ∃ xs, flat cells3 L = xs := ⟨_, rfl⟩
  have hrow := hR.row
  rw [hk, hxs] at hrow
  rw [hxs] at hone
  rw [hk] at hby hky
  obtain ⟨ad, cap, rfl, hcc, hcm, had⟩ := ownsRow_shapeN hrow
  have HROW := Lib.hid hrow; clear hrow
  have HK := Lib.hid hk; clear hk
  have HXS := Lib.hid hxs; clear hxs
  have HONE := Lib.hid hone; clear hone
  have ES := Lib.hid elemS
  clear hR had
  go_enter Try.func19, Try.ntmps19
  go_wp2_with fail
  obtain ⟨qb, hqb⟩ : ∃ q, w.heap.size = q := ⟨_, rfl⟩
  obtain ⟨W1, hW1⟩ : ∃ W1, w.alloc (.cells #[.int .i64 z, .slice none 0 0] 29) = W1 := ⟨_, rfl⟩
  have hb1 : Below w.heap.size w W1 := by rw [← hW1]; exact (Below.refl _ _).alloc (Nat.le_refl _) _
  have hx1 : Blk W1 qb #[.int .i64 z, .slice none 0 0] 29 := by rw [← hW1, ← hqb]; exact Blk.new _ _ _
  have hr1 : W1.ownsRow base 33 3 (.slice ad k cap) k xs := by rw [← hW1]; exact HROW.out.alloc _
  have hc0 := (hb1.cell (p := ⟨rb, 1, none⟩) hbl).trans hz1
  have hq1 := hx1.cell 1
  simp at hq1
  have hqf := hx1.frozen 1
  rw [hW1]
  try rw [hqb]
  have HX1 := Lib.hid hx1; clear hx1
  have HR1 := Lib.hid hr1; clear hr1
  have HB1 := Lib.hid hb1; clear hb1
  clear hz0 hz1 HROW
  have hS0 : W1.drew.cell? ⟨rb, 1, none⟩ = some (.slice ad k cap) := hc0
  refine wp_region_held_drew (S := fun w' => w'.cell? ⟨rb, 1, none⟩ = some (.slice ad k cap)) (by kernel_rfl) hS0 (fun hHeld => ?_)
  clear hS0
  refine wpAnyH_takeD (i := 0) (d := some 10) (v := ?_) rfl rfl (by kernel_rfl) (by kernel_rfl) (by kernel_rfl) (fun _ _ _ h => h) (Or.inl ⟨by rfl, ?_⟩) (by assumption) ?_
  rotate_left
  · intro w hSw; (try dsimp only at hSw); go_simp; all_goals (with_reducible rfl)
  simp only [Act.put, List.setIfInBounds_toArray, List.set_cons_zero, List.set_cons_succ]
  refine wpAnyH_takeD (i := 1) (d := some 11) (v := ?_) rfl rfl (by kernel_rfl) (by kernel_rfl) (by kernel_rfl) (fun _ _ _ h => h) (Or.inl ⟨by rfl, ?_⟩) (by assumption) ?_
  rotate_left
  · intro w hSw; (try dsimp only at hSw); go_simp; all_goals (with_reducible rfl)
  simp only [Act.put, List.setIfInBounds_toArray, List.set_cons_zero, List.set_cons_succ]
  refine wpAnyH_takeD (i := 2) (d := some 12) (v := ?_) rfl rfl (by kernel_rfl) (by kernel_rfl) (by kernel_rfl) (fun _ _ _ h => h) (Or.inl ⟨by rfl, ?_⟩) (by assumption) ?_
  rotate_left
  · intro w hSw; (try dsimp only at hSw); go_simp; all_goals (with_reducible rfl)
  simp only [Act.put, List.setIfInBounds_toArray, List.set_cons_zero, List.set_cons_succ]
  refine wpAnyH_takeD (i := 3) (d := some 13) (v := ?_) rfl rfl (by kernel_rfl) (by kernel_rfl) (by kernel_rfl) (fun _ _ _ h => h) (Or.inl ⟨by rfl, ?_⟩) (by assumption) ?_
  rotate_left
  · intro w hSw; (try dsimp only at hSw); go_simp; all_goals (with_reducible rfl)
  simp only [Act.put, List.setIfInBounds_toArray, List.set_cons_zero, List.set_cons_succ]
  refine wpAnyH_takeD (i := 5) (d := some 15) (v := ?_) rfl rfl (by kernel_rfl) (by kernel_rfl) (by kernel_rfl) (fun _ _ _ h => h) (Or.inl ⟨by rfl, ?_⟩) (by assumption) ?_
  rotate_left
  · intro w hSw; (try dsimp only at hSw); go_simp; all_goals (with_reducible rfl)
  simp only [Act.put, List.setIfInBounds_toArray, List.set_cons_zero, List.set_cons_succ]
  refine wpAnyH_takeD (i := 6) (d := some 16) (v := ?_) rfl rfl (by kernel_rfl) (by kernel_rfl) (by kernel_rfl) (fun _ _ _ h => h) (Or.inl ⟨by rfl, ?_⟩) (by assumption) ?_
  rotate_left
  · intro w hSw; (try dsimp only at hSw); go_simp; all_goals (with_reducible rfl)
  simp only [Act.put, List.setIfInBounds_toArray, List.set_cons_zero, List.set_cons_succ]
  refine wpAnyH_takeD (i := 7) (d := some 17) (v := ?_) rfl rfl (by kernel_rfl) (by kernel_rfl) (by kernel_rfl) (fun _ _ _ h => h) (Or.inl ⟨by rfl, ?_⟩) (by assumption) ?_
  rotate_left
  · intro w hSw; (try dsimp only at hSw); go_simp; all_goals (with_reducible rfl)
  simp only [Act.put, List.setIfInBounds_toArray, List.set_cons_zero, List.set_cons_succ]
  refine wpAnyH_takeD (i := 8) (d := some 18) (v := ?_) rfl rfl (by kernel_rfl) (by kernel_rfl) (by kernel_rfl) (fun _ _ _ h => h) (Or.inl ⟨by rfl, ?_⟩) (by assumption) ?_
  rotate_left
  · intro w hSw; (try dsimp only at hSw); go_simp; all_goals (with_reducible rfl)
  simp only [Act.put, List.setIfInBounds_toArray, List.set_cons_zero, List.set_cons_succ]
  refine wpAnyH_ready (rs := [4]) (by kernel_rfl) (by simp) ?_
  refine AllReadyH.cons (o := _) rfl (fun K hK => ?_) AllReadyH.nil
  have hq1' : W1.drew.cell? ⟨qb, 1, none⟩ = some (.slice none 0 0) := hq1
  go_simp
  refine hK.out _ _ hHeld (fun hHeld => ?_)
  clear hK K
  try simp only [Act.put, List.setIfInBounds_toArray, List.set_cons_zero, List.set_cons_succ]
  refine wpAnyH_ready (rs := [9]) (by kernel_rfl) (by simp) ?_
  refine AllReadyH.cons (o := _) rfl (fun K hK => ?_) AllReadyH.nil
  rw [if_pos (show Region.wanted _ _ = true from rfl)]
  refine wp_appendRow ES.out _ _ rfl rfl base (.slice ad k cap) k xs rfl (show W1.drew.ownsRow base 33 3 (.slice ad k cap) k xs from HR1.out) HONE.out hky hby ?_
  intro v' W2 hown hgr
  have hown2 : W2.ownsRow W1.heap.size 33 3 v' k xs := hown
  obtain ⟨ad2, cap2, rfl, _, _, _⟩ := ownsRow_shapeN hown2
  have hb2 : Below W1.heap.size W1.drew W2 := ⟨hgr.os, hgr.tape, hgr.output, hgr.size, fun j hj => hgr.block j hj (by simp)⟩
  have hW1s : W1.heap.size = qb + 1 := by rw [← hW1, ← hqb]; simp
  have hx2 : Blk W2 qb #[.int .i64 z, .slice none 0 0] 29 := (show Blk W1.drew qb _ _ from HX1.out).below hb2 (by show qb < W1.heap.size; omega)
  have hc2 : W2.cell? ⟨rb, 1, none⟩ = some (.slice ad k cap) := (hb2.cell (p := ⟨rb, 1, none⟩) (by show rb < W1.heap.size; omega)).trans hHeld
  have hq2 := hx2.cell 1
  simp at hq2
  have hf2 := hx2.frozen 1
  refine hK.out _ _ hc2 (fun hHeld => ?_)
  clear hK K hq1' hgr hown
  try simp only [Act.put, List.setIfInBounds_toArray, List.set_cons_zero, List.set_cons_succ]
  refine wpAnyH_takeD (i := 10) (d := some 20) (v := ?_) rfl rfl (by kernel_rfl) (by kernel_rfl) (by kernel_rfl) (fun _ _ _ h => h) (Or.inl ⟨by rfl, ?_⟩) (by assumption) ?_
  rotate_left
  · intro w hSw; (try dsimp only at hSw); go_simp; all_goals (with_reducible rfl)
  simp only [Act.put, List.setIfInBounds_toArray, List.set_cons_zero, List.set_cons_succ]
  refine wpAnyH_takeD (i := 11) (d := some 21) (v := ?_) rfl rfl (by kernel_rfl) (by kernel_rfl) (by kernel_rfl) (fun _ _ _ h => h) (Or.inl ⟨by rfl, ?_⟩) (by assumption) ?_
  rotate_left
  · intro w hSw; (try dsimp only at hSw); go_simp; all_goals (with_reducible rfl)
  simp only [Act.put, List.setIfInBounds_toArray, List.set_cons_zero, List.set_cons_succ]
  refine wpAnyH_ready (rs := [12]) (by kernel_rfl) (by simp) ?_
  refine AllReadyH.cons (o := _) rfl (fun K hK => ?_) AllReadyH.nil
  go_simp
  have hx3 := hx2.set 1 (.slice ad2 k cap2)
  have hk3 : Keep (fun j => j = qb) W2 (W2.setCell ⟨qb, 1, none⟩ (.slice ad2 k cap2)) := Keep.of_setCell _ _ _ _
  have hb3 : Below w.heap.size w (W2.setCell ⟨qb, 1, none⟩ (.slice ad2 k cap2)) := ((HB1.out.drew).trans (hb2.mono (by omega))).setCell (p := ⟨qb, 1, none⟩) (by show w.heap.size ≤ qb; omega) _
  have hr3 : (W2.setCell ⟨qb, 1, none⟩ (.slice ad2 k cap2)).ownsRow w.heap.size 33 3 (.slice ad2 k cap2) k xs := ownsRow_setCell_other (show W2.ownsRow w.heap.size _ 3 _ k xs from ⟨hown2.1, by rcases hown2.2 with h | ⟨g, c, cur, h1, h2, h3⟩; exact .inl h; exact .inr ⟨g, c, cur, h1, by omega, h3⟩⟩) (a := ⟨qb, 1, none⟩) (fun e => by have := (World.ownsRow.lt hown2 qb e).1; omega) _
  have hc3 := hk3.cell hc2 (by show ¬ rb = qb; omega)
  refine hK.out _ _ hc3 (fun hHeld => ?_)
  clear hK K
  try simp only [Act.put, List.setIfInBounds_toArray, List.set_cons_zero, List.set_cons_succ]
  refine wpAnyH_done (by kernel_rfl) ?_ _
  have HX3 := Lib.hid hx3; clear hx3
  have HB3 := Lib.hid hb3; clear hb3
  have HR3 := Lib.hid hr3; clear hr3
  go_wp2
  go_ret
  have hk := HK.out
  subst hk
  have hr4 := HR3.out
  rw [← HXS.out] at hr4
  exact ⟨qb, _, rfl, by omega, ⟨by simpa using HX3.out, hr4⟩, HB3.out⟩

end Go.Proofs.Ytkpkcimghkmkfaa
