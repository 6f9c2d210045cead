/-
  Layer 6 (trie): the library's Keys, AppendSeq, Collect, Sort, Sorted at a table's blocks.
-/
import Derived.Test.YtkpkcimghkmkfaaTrH

import Derived.Sort.KeysCollected
import Derived.Sort.OwnSortedInts
import Derived.Maps.OwnIn
import Derived.RangeFuncSeq
import Derived.RangeFuncBox
namespace Go.Proofs.Ytkpkcimghkmkfaa
open Go.RowKit Go.Shelf
attribute [local go_sem] Oper.semAt_some

/-- the map of a table -/
def MapAt (w : World) (m : Nat) (z : Int) (f : Nat → Int) : Prop := ∃ D : DataW Unit, w.ownsMap Try.prog 21 arrR m (Maps.size D) D ∧ MapsTo z f D
theorem TabAt.mapAt {w : World} {b m : Nat} {z : Int} {f : Nat → Int} (h : TabAt Try.prog w b m z f) : MapAt w m z f := h.map
theorem MapAt.lt {w : World} {m : Nat} {z : Int} {f : Nat → Int} (h : MapAt w m z f) : m < w.heap.size := by obtain ⟨D, h, _⟩ := h; exact h.lt
theorem MapAt.block {w w' : World} {m : Nat} {z : Int} {f : Nat → Int} (h : MapAt w m z f) (he : w'.heap[m]? = w.heap[m]?) : MapAt w' m z f := by
  obtain ⟨D, ⟨es, clock, h1, h2⟩, h3⟩ := h
  exact ⟨D, ⟨es, clock, he.trans h1, h2⟩, h3⟩
theorem MapAt.below {w w' : World} {m n : Nat} {z : Int} {f : Nat → Int} (h : MapAt w m z f) (hb : Below n w w') (hn : n = w.heap.size) : MapAt w' m z f := h.block (hb.block m (by have := h.lt; omega))

/-- the blocks in which a number has another value than z -/
def keysB (z : Int) (f : Nat → Int) : List Nat := (List.range 4352).filter (apartB z f)
theorem keysB_mem {z : Int} {f : Nat → Int} {a : Nat} : a ∈ keysB z f ↔ a < 4352 ∧ apartB z f a = true := by simp [keysB]
theorem keysB_len (z : Int) (f : Nat → Int) : (keysB z f).length ≤ 4352 := by
  unfold keysB
  have := List.length_filter_le (apartB z f) (List.range 4352)
  simpa using this

def CollB (D : DataW Unit) (left : Lit → Bool) (xs : List Nat) : Prop := xs.Nodup ∧ ∀ a, a ∈ xs ↔ (Maps.has D (bkey a) = true ∧ left (bkey a) = false)
theorem CollB.start (D : DataW Unit) : CollB D (Maps.has D) [] := ⟨List.nodup_nil, fun a => by cases Maps.has D (bkey a) <;> simp⟩
theorem CollB.step {D : DataW Unit} {left : Lit → Bool} {xs : List Nat} (h : CollB D left xs) {a : Nat} (hlk : left (bkey a) = true) (hhas : Maps.has D (bkey a) = true) :
    CollB D (fun z => left z && !z.sameKey (bkey a)) (xs ++ [a]) := by
  have hnew : a ∉ xs := fun hx => by have := ((h.2 a).1 hx).2; rw [hlk] at this; cases this
  refine ⟨List.nodup_append.2 ⟨h.1, by simp, fun b hb c hc => by simp at hc; subst hc; exact fun e => hnew (e ▸ hb)⟩, fun y => ?_⟩
  by_cases hy : y = a
  · subst hy
    simp [hhas, WideAt.sameKey_self (bkey_key y)]
  · have hne : (bkey y).sameKey (bkey a) = false := Maps.sameKey_ne (fun e => hy (bkey_inj e))
    simp [h.2 y, hy, hne]
theorem CollB.perm {z : Int} {f : Nat → Int} {D : DataW Unit} {left : Lit → Bool} {xs : List Nat} (h : CollB D left xs) (hM : MapsTo z f D) (hl : ∀ kl, left kl = false) : xs.Perm (keysB z f) := by
  refine (List.perm_ext_iff_of_nodup h.1 (List.Nodup.sublist List.filter_sublist List.nodup_range)).2 fun a => ?_
  rw [h.2 a, hl]
  rw [List.mem_filter, List.mem_range]
  constructor
  · rintro ⟨h1, _⟩
    obtain ⟨h2, h3, _⟩ := hM.present h1
    exact ⟨h2, h3⟩
  · rintro ⟨h2, h3⟩
    exact ⟨(hM.vals a h2 h3).1, rfl⟩

set_option maxRecDepth 100000 in
set_option maxHeartbeats 2000000 in
theorem keys_stops (n : Nat) (hn : 1 ≤ n) (B m : Nat) (z : Int) (f : Nat → Int) (w : World) (hB : w.cell? ⟨B, 0, none⟩ = some (.map (some m))) (hm : MapAt w m z f) :
    SeqStopsK Fence.wide n Try.prog 46 #[.pointer (some ⟨B, 0, none⟩)] (fun a : Nat => #[.int .i32 a]) KeepsWalks (fun xs => xs.Perm (keysB z f)) (fun _ => True) (keysB z f).length w := fun l J Jx W hW hJ hJx hY h0 => by
  have hAW : W.cell? ⟨B, 0, none⟩ = some (.map (some m)) := (hW.cell (p := ⟨B, 0, none⟩) (cell_lt hB)).trans hB
  obtain ⟨D0, hown, hM⟩ := hm.below hW rfl
  have HSZ := Lib.hid (show Maps.size D0 = (keysB z f).length from hM.size)
  clear hB hm
  refine callsIn_of_wp Try.func46 rfl trivial ?_ rfl
  simp only [Try.ntmps46, List.size_toArray, List.length_cons, List.length_nil, Nat.reduceAdd, Nat.reduceSub, Array.replicate_succ, Array.replicate_zero, List.push_toArray, List.append_toArray, List.nil_append, List.cons_append]
  gi_wp2_with (first
    | (gi_at_range; refine wpListIn_range_own _ rfl _ 56 rfl 21 60 (keyed _ rfl) (map_ty _ rfl) _ m _ _ rfl hown ?_; intro w0 hrg0 hg0 hs0)
    | gi_in)
  gi_loopw [6] (fun _ wr => ∃ (left : Lit → Bool) (cnt : Nat) (xs : List Nat), wr.ranges Try.prog 21 arrR m W.heap.size (Maps.size D0) D0 left cnt ∧ xs.length + cnt ≤ Maps.size D0 ∧ CollB D0 left xs ∧ J xs wr)
    (fun _ wr => wr.rangeLeft m W.heap.size)
  case atStart =>
    exact ⟨_, _, [], hrg0, by simp, CollB.start D0, hJ [] W w0 none h0 hg0 (fun r e => by cases e)⟩
  case round =>
    obtain ⟨left, cnt, xs, hrg, hcs, hC, hJs⟩ := hrel
    gi_wp2_with (first
      | (gi_at_next; refine wpListIn_next_ranges _ rfl _ rfl 21 (keyed _ rfl) arrR (Value.int .i32) (fun d => Value.agg (arrI d)) (fun key kl hk => by obtain ⟨x, hx, _⟩ := Maps.keyOf_int_inv Try.underlying21 hk; exact ⟨x, hx⟩) (fun v y hv => by obtain ⟨c, rfl, _⟩ := arrR_inv hv; exact ⟨c, rfl⟩) m W.heap.size _ _ _ _ rfl hrg ?_ ?_)
      | gi_in)
    · intro hc0 hl0
      gi_wp2
      go_end0
      exact ⟨⟨_, rfl⟩, .inl ⟨xs, hC.perm hM hl0, hJs⟩⟩
    · intro x c kl yd yp w2 cnt2 hkey hlk hv hat hrg2 hlt hg2 hs2 hen
      obtain ⟨x', ex, rfl, hwx⟩ := Maps.keyOf_int_inv Try.underlying21 hkey
      cases ex
      have hhas : Maps.has D0 (.int .i32 x) = true := Maps.has_true_of_atKey hat
      obtain ⟨a, ea, ha1, ha2⟩ := hM.keys _ hhas
      obtain rfl : x = (a : Int) := by unfold bkey at ea; simpa using ea
      have hJ2 : J xs w2 := hJ xs wr w2 (some W.heap.size) hJs hg2 (fun r e => by cases e; exact ⟨Nat.le_refl _, hrg.iter_walk⟩)
      obtain ⟨fn, tmps, assign, body, hy, hR⟩ := hY xs a w2 hJ2 (by have := HSZ.out; omega)
      have hC2 := hC.step hlk hhas
      clear hs2
      gi_wp2
      refine hR.mono ?_
      rintro e W3 (⟨rfl, hJ3, hk3⟩ | ⟨rfl, hJx3⟩)
      · gi_wp2
        have hrg3 := hrg2.of_walks hk3
        go_roundw
        case rel => exact ⟨_, cnt2, xs ++ [a], hrg3, by simp; omega, hC2, hJ3⟩
        case measure => rw [hrg3.left_eq, hrg.left_eq]; exact hlt
      · gi_wp2
        refine bodyPost_ret (results_none rfl _ _ _) rfl ?_
        exact ⟨⟨_, rfl⟩, .inr ⟨xs ++ [a], trivial, hJx3⟩⟩

def encB (a : Nat) : Value := .int .i32 (a : Int)

set_option maxRecDepth 100000 in
set_option maxHeartbeats 2000000 in
theorem appendSeq_any (B m : Nat) (z : Int) (f : Nat → Int) (w : World) (hB : w.cell? ⟨B, 0, none⟩ = some (.map (some m))) (hm : MapAt w m z f) :
    Calls Try.prog 48 #[.slice none 0 0, .func (.func 46) #[] #[.pointer (some ⟨B, 0, none⟩)]] w fun e w' =>
      ∃ (v : Value) (xs : List Nat), e = .returned v ∧ xs.Perm (keysB z f) ∧ w'.ownsRow w.heap.size 21 1 v xs.length (xs.map encB) ∧ Below w.heap.size w w' := by
  refine (callsIn_wide (n := 8)).1 ?_
  refine callsIn_of_wp_marks Try.func48 rfl trivial ?_ rfl
  simp only [Try.ntmps48, List.size_toArray, List.length_cons, List.length_nil, Nat.reduceAdd, Nat.reduceSub, Array.replicate_succ, Array.replicate_zero, List.push_toArray, List.append_toArray, List.nil_append, List.cons_append]
  gi_wp2
  obtain ⟨W0, hW0⟩ : ∃ W0, w.alloc (.cells #[.slice none 0 0] 79) = W0 := ⟨_, rfl⟩
  have hs0 : W0.heap.size = w.heap.size + 1 := by rw [← hW0]; simp
  have hB0 : Below w.heap.size w W0 := by rw [← hW0]; exact (Below.refl _ _).alloc (Nat.le_refl _) _
  have hn0 : Boxed W0 w.heap.size 79 (.slice none 0 0) := by rw [← hW0]; exact Boxed.new _ _ _
  have hcB : W0.cell? ⟨B, 0, none⟩ = some (.map (some m)) := by rw [hB0.cell (p := ⟨B, 0, none⟩) (cell_lt hB)]; exact hB
  have hm0 : MapAt W0 m z f := hm.below hB0 rfl
  rw [hW0]
  clear hW0
  have hkl := keysB_len z f
  obtain ⟨i0, hi, hz0, hz1, hz2⟩ := info_parts (show (Try.prog.info? 21).map (fun i => (i.zero, i.size, i.bytes)) = some (some (.int .i32 0), 1, 4) by kernel_rfl)
  refine wpIn_rangeFunc_ownF (F := Fence.wide) rfl (by omega) (gf := 46) (lb := #[.pointer (some ⟨B, 0, none⟩)]) rfl trivial (enters_of Try.func46 (by kernel_rfl) rfl)
    (keys_stops 7 (by omega) B m z f W0 hcB hm0) walksK_t walksK_b (Below.refl _ _) (fun _ => rfl)
    (fun xs W => (∃ v, Boxed W w.heap.size 79 v ∧ W.ownsRow w.heap.size 21 1 v xs.length (xs.map encB) ∧ True) ∧ Below w.heap.size w W)
    (fun _ _ _ => False)
    (OwnFrom.and (Own.from (holdsRow_own _ _ _ _ _ _ _ (fun _ _ => True)) _) (ownFrom_below (Nat.le_refl _) (by omega)))
    (fun _ _ _ _ _ hs _ _ => hs)
    ⟨⟨_, hn0, World.ownsRow_nil _ _ _ _, trivial⟩, hB0⟩
    (fun x => { tmps := #[.slice none 0 0, Value.func (.func 46) #[] #[.pointer (some ⟨B, 0, none⟩)], .pointer (some ⟨w.heap.size, 0, none⟩), undef, .slice none 0 0, .int .i32 (x : Int), Value.func (.func 46) #[] #[.pointer (some ⟨B, 0, none⟩)], .int .i32 (x : Int), undef, undef, undef, undef, undef], defers := [] }) ?assign ?body ?done ?stop
  case assign =>
    intro l x W K hK
    gi_wp2
    exact hK
  case body =>
    rintro l pre x W ⟨⟨v, hv, hrow, _⟩, hbl⟩ hlen
    have hcv := hv.cell
    have hbs := hbl.size
    gi_wp2_with (first
      | (gi_at_builtin; refine wpListIn_append_own_at _ rfl _ _ 79 rfl w.heap.size 21 i0 (.int .i32 0) 1 4 Try.underlying79 hi hz0 hz1 hz2 rfl (by decide) v pre.length (pre.map encB) rfl (hrow.alloc _) ⟨W.heap.size, 0, none⟩ 1 1 [encB x] rfl rfl (cell_one_new _ _ _) (by simp [Value.oneCell', encB]) (by unfold maxLen; omega) (by omega) (by simp; omega) ?_; intro v' w1 hown' hgrow _ hat
         obtain ⟨g', cap', rfl⟩ := ownsRow_succ hown'
         obtain ⟨p1, p2, p3, p4, p5⟩ := hv.appended (by decide) hrow hbs (Nat.le_refl _) hown' hgrow
         have hc1 := p1.cell
         have hf1 := p1.frozen
         go_frame)
      | gi_in)
    exact ⟨p4, p4.walks, ⟨_, p2, by simpa using p3, trivial⟩, hbl.trans p5⟩
  case stop =>
    rintro D c pre W _ _ h _
    exact h.elim
  case done =>
    rintro D xs W hD hp ⟨⟨v, hv, hrow, _⟩, hbl⟩ hK
    have hcv := hv.cell
    gi_wp2
    refine ⟨by simp, .inl ⟨_, _, rfl, run_takeDeferred hK, ?_⟩⟩
    refine ⟨_, results_tmp rfl _ _ _, _, xs, rfl, hp, ownsRow_putObj hrow _ hK rfl, hbl.trans (belowK_b (w := w) (Nat.le_refl _) W D _ _ (by omega) hK rfl rfl)⟩

end Go.Proofs.Ytkpkcimghkmkfaa
