/-
  Layer 6 (trie): All of a table that holds nothing: the library's Keys, Collect, Sort at nothing.
-/
import Derived.Test.YtkpkcimghkmkfaaTrG
import Derived.Maps.RangeWalk
import Derived.Sort.MapsRangeIn
namespace Go.Proofs.Ytkpkcimghkmkfaa
open Go.RowKit Go.Shelf
attribute [local go_sem] Oper.semAt_some

theorem below_grown {w w' : World} (h : Below w.heap.size w w') : w.grownBy w' none := ⟨h.os, h.tape, h.output, h.size, fun k hk _ => h.block k hk⟩
theorem below_others {w w' : World} (h : Below w.heap.size w w') : KeepsOthers w w' := ⟨h.size, fun k _ hk _ => (h.block k (Array.getElem?_eq_some_iff.1 hk).1).trans hk⟩
theorem below_walks {w w' : World} (h : Below w.heap.size w w') : KeepsWalks w w' := ⟨h.size, fun k _ hk _ => (h.block k (Array.getElem?_eq_some_iff.1 hk).1).trans hk⟩

set_option maxHeartbeats 1000000 in
theorem keys_any (m : Nat) (w : World) :
    Calls Try.prog 40 #[.map (some m)] w fun e w' =>
      e = .returned (.func (.func 46) #[] #[.pointer (some ⟨w.heap.size, 0, none⟩)]) ∧ w'.cell? ⟨w.heap.size, 0, none⟩ = some (.map (some m)) ∧ Below w.heap.size w w' := by
  go_enter Try.func40, Try.ntmps40
  go_wp2
  go_ret
  exact ⟨rfl, by simp, (Below.refl _ _).alloc (Nat.le_refl _) _⟩

/-- a map of nothing -/
def Bare (w : World) (m : Nat) : Prop := ∃ D : DataW Unit, w.ownsMap Try.prog 21 arrR m 0 D

theorem Bare.lt {w : World} {m : Nat} (h : Bare w m) : m < w.heap.size := by obtain ⟨D, h⟩ := h; exact h.lt
theorem Bare.block {w w' : World} {m : Nat} (h : Bare w m) (he : w'.heap[m]? = w.heap[m]?) : Bare w' m := by
  obtain ⟨D, es, clock, h1, h2⟩ := h
  exact ⟨D, es, clock, he.trans h1, h2⟩
theorem Bare.below {w w' : World} {m n : Nat} (h : Bare w m) (hb : Below n w w') (hn : n = w.heap.size) : Bare w' m := h.block (hb.block m (by have := h.lt; omega))

theorem TabAt.bare {w : World} {b m : Nat} {z : Int} (h : TabAt Try.prog w b m z (fun _ => z)) : Bare w m := by
  obtain ⟨D, ho, hM⟩ := h.map
  have h0 : cntB z (fun _ => z) = 0 := by
    unfold cntB
    rw [List.filter_eq_nil_iff.2 (fun a _ => by rw [apartB_false.2 fun _ _ => rfl]; simp)]
    rfl
  rw [hM.size, h0] at ho
  exact ⟨D, ho⟩

theorem Bare.range {w : World} {m : Nat} (h : Bare w m) : ∃ w', (Instr.range 56 (.map (some m))).run Try.prog w = .ok (.pointer (some ⟨w.heap.size, 0, none⟩)) w' ∧ w.grownBy w' none ∧
    ∀ ty, (Instr.next (.pointer (some ⟨w.heap.size, 0, none⟩)) false ty).run Try.prog w' = .ok (.tuple #[.bool false]) w' := by
  obtain ⟨D, ho⟩ := h
  obtain ⟨w', h1, h2, h3, _⟩ := ho.range (keyed _ rfl) (map_ty _ rfl)
  have hs := ho.size_le
  refine ⟨w', h1, h3, fun ty => ?_⟩
  rcases h2.next (keyed _ rfl) ty with ⟨_, _, h⟩ | ⟨_, _, _, _, _, c, _, _, _, _, _, _, hc, _⟩
  · exact h
  · omega

set_option maxRecDepth 100000 in
set_option maxHeartbeats 2000000 in
theorem keys_stops0 (n : Nat) (hn : 1 ≤ n) (B m : Nat) (Kp : World → World → Prop) (w : World) (hB : w.cell? ⟨B, 0, none⟩ = some (.map (some m))) (hm : Bare w m) :
    SeqStopsK Fence.wide n Try.prog 46 #[.pointer (some ⟨B, 0, none⟩)] (fun _ : Unit => #[.int .i32 0]) Kp (fun xs => xs = []) (fun _ => False) 0 w := fun l J Jx W hW hJ hJx hY h0 => by
  have hAW : W.cell? ⟨B, 0, none⟩ = some (.map (some m)) := (hW.cell (p := ⟨B, 0, none⟩) (cell_lt hB)).trans hB
  obtain ⟨W1, hr1, hg1, hn1⟩ := (hm.below hW rfl).range
  have hJ1 : J [] W1 := hJ [] W W1 none h0 hg1 (by simp)
  have HJ1 := Lib.hid hJ1
  clear hY hJ hJx h0 hJ1
  refine callsIn_of_wp Try.func46 rfl trivial ?_ rfl
  simp only [Try.ntmps46, List.size_toArray, List.length_cons, List.length_nil, Nat.reduceAdd, Nat.reduceSub, Array.replicate_succ, Array.replicate_zero, List.push_toArray, List.append_toArray, List.nil_append, List.cons_append]
  gi_wp2
  gi_loopw [6] (fun _ wr => wr = W1) (fun _ _ => 0)
  case atStart => rfl
  case round =>
    obtain rfl := hrel
    gi_wp2
    go_end0
    exact ⟨⟨_, rfl⟩, .inl ⟨[], rfl, HJ1.out⟩⟩

set_option maxRecDepth 100000 in
set_option maxHeartbeats 2000000 in
theorem appendSeq0 (B m : Nat) (w : World) (hB : w.cell? ⟨B, 0, none⟩ = some (.map (some m))) (hm : Bare w m) :
    Calls Try.prog 48 #[.slice none 0 0, .func (.func 46) #[] #[.pointer (some ⟨B, 0, none⟩)]] w fun e w' =>
      e = .returned (.slice none 0 0) ∧ Below w.heap.size w w' := by
  refine (callsIn_wide (n := 8)).1 ?_
  refine callsIn_of_wp_marks Try.func48 rfl trivial ?_ rfl
  simp only [Try.ntmps48, List.size_toArray, List.length_cons, List.length_nil, Nat.reduceAdd, Nat.reduceSub, Array.replicate_succ, Array.replicate_zero, List.push_toArray, List.append_toArray, List.nil_append, List.cons_append]
  gi_wp2
  obtain ⟨W0, hW0⟩ : ∃ W0, w.alloc (.cells #[.slice none 0 0] 79) = W0 := ⟨_, rfl⟩
  have hs0 : W0.heap.size = w.heap.size + 1 := by rw [← hW0]; simp
  have hB0 : Below w.heap.size w W0 := by rw [← hW0]; exact (Below.refl _ _).alloc (Nat.le_refl _) _
  have hn0 : W0.cell? ⟨w.heap.size, 0, none⟩ = some (.slice none 0 0) := by rw [← hW0]; simp
  have hcB : W0.cell? ⟨B, 0, none⟩ = some (.map (some m)) := by rw [hB0.cell (p := ⟨B, 0, none⟩) (cell_lt hB)]; exact hB
  have hm0 : Bare W0 m := hm.below hB0 rfl
  rw [hW0]
  clear hW0 hB hm
  refine wpIn_rangeFunc_ownF (F := Fence.wide) rfl (by omega) (gf := 46) (lb := #[.pointer (some ⟨B, 0, none⟩)]) rfl trivial (enters_of Try.func46 (by kernel_rfl) rfl)
    (keys_stops0 7 (by omega) B m KeepsWalks W0 hcB hm0) walksK_t walksK_b (Below.refl _ _) (fun _ => rfl)
    (fun _ W => (W.cell? ⟨w.heap.size, 0, none⟩ = some (.slice none 0 0)) ∧ Below w.heap.size w W)
    (fun _ _ _ => False)
    (OwnFrom.and (Own.from (fun s A B row hs hg hr => cell_kept hs hg hr) _) (ownFrom_below (Nat.le_refl _) (by omega)))
    (fun _ _ _ _ _ hs _ _ => hs)
    ⟨hn0, hB0⟩
    (fun _ => { tmps := ?tm, defers := [] }) ?assign ?body ?done ?stop
  case assign =>
    intro l x W K hK
    gi_wp2
    exact hK
  case body =>
    rintro l pre x W _ h
    exact absurd h (Nat.not_lt_zero _)
  case stop =>
    rintro D c pre W _ h _ _
    exact h.elim
  case done =>
    rintro D xs W hD _ ⟨hn1, hB⟩ hK
    gi_wp2
    refine ⟨by simp, .inl ⟨_, _, rfl, run_takeDeferred hK, ?_⟩⟩
    refine ⟨_, results_tmp rfl _ _ _, rfl, hB.trans (belowK_b (w := w) (Nat.le_refl _) W D _ _ (by omega) hK rfl rfl)⟩

set_option maxHeartbeats 1000000 in
theorem collect0 (B m : Nat) (w : World) (hB : w.cell? ⟨B, 0, none⟩ = some (.map (some m))) (hm : Bare w m) :
    Calls Try.prog 44 #[.func (.func 46) #[] #[.pointer (some ⟨B, 0, none⟩)]] w fun e w' =>
      e = .returned (.slice none 0 0) ∧ Below w.heap.size w w' := by
  have HC := Lib.hid (appendSeq0 B m w hB hm)
  clear hB hm
  go_enter Try.func44, Try.ntmps44
  go_wp2_with fail
  refine HC.out.mono ?_
  rintro e w1 ⟨rfl, hb⟩
  go_wp2
  go_ret
  exact ⟨rfl, hb⟩

set_option maxRecDepth 100000 in
set_option maxHeartbeats 2000000 in
theorem len64_0 (w : World) : Calls Try.prog 61 #[.int .u64 0] w fun e w' => (∃ k : Int, e = .returned (.int .i64 k)) ∧ w = w' := by
  go_enter Try.func61, Try.ntmps61
  go_wp2
  go_ret
  exact ⟨⟨_, rfl⟩, rfl⟩

set_option maxHeartbeats 1000000 in
theorem len_0 (w : World) : Calls Try.prog 50 #[.int .u64 0] w fun e w' => (∃ k : Int, e = .returned (.int .i64 k)) ∧ w = w' := by
  go_enter Try.func50, Try.ntmps50
  go_wp2_with fail
  refine (len64_0 _).mono ?_
  rintro e w1 ⟨⟨k, rfl⟩, rfl⟩
  go_wp2
  go_ret
  exact ⟨⟨_, rfl⟩, rfl⟩

set_option maxHeartbeats 1000000 in
theorem insertion0 (w : World) : Calls Try.prog 51 #[.slice none 0 0, .int .i64 0, .int .i64 0] w fun e w' => e = .returned (.tuple #[]) ∧ w = w' := by
  go_enter Try.func51, Try.ntmps51
  go_wp2
  refine wp_loop_rounds 1 ?_
  rw [rounds_succ]
  go_wp2
  go_end0
  exact ⟨rfl, rfl⟩

set_option maxRecDepth 100000 in
set_option maxHeartbeats 2000000 in
theorem pdq0 (k : Int) (w : World) : Calls Try.prog 49 #[.slice none 0 0, .int .i64 0, .int .i64 0, .int .i64 k] w fun e w' => e = .returned (.tuple #[]) ∧ w = w' := by
  go_enter Try.func49, Try.ntmps49
  go_wp2
  refine wp_loop_rounds 1 ?_
  rw [rounds_succ]
  go_wp2_with fail
  refine (insertion0 _).mono ?_
  rintro e w1 ⟨rfl, rfl⟩
  go_wp2
  exact bodyPost_ret (results_none rfl _ _ _) rfl ⟨rfl, rfl⟩

set_option maxHeartbeats 1000000 in
theorem sort0 (w : World) : Calls Try.prog 45 #[.slice none 0 0] w fun e w' => e = .returned (.tuple #[]) ∧ w = w' := by
  go_enter Try.func45, Try.ntmps45
  go_wp2_with fail
  refine (len_0 _).mono ?_
  rintro e w1 ⟨⟨k, rfl⟩, rfl⟩
  go_wp2_with fail
  refine (pdq0 k _).mono ?_
  rintro e w1 ⟨rfl, rfl⟩
  go_wp2
  go_end0
  exact ⟨rfl, rfl⟩

set_option maxHeartbeats 1000000 in
theorem sorted0 (B m : Nat) (w : World) (hB : w.cell? ⟨B, 0, none⟩ = some (.map (some m))) (hm : Bare w m) :
    Calls Try.prog 39 #[.func (.func 46) #[] #[.pointer (some ⟨B, 0, none⟩)]] w fun e w' =>
      e = .returned (.slice none 0 0) ∧ Below w.heap.size w w' := by
  have HC := Lib.hid (collect0 B m w hB hm)
  clear hB hm
  go_enter Try.func39, Try.ntmps39
  go_wp2_with fail
  refine HC.out.mono ?_
  rintro e w1 ⟨rfl, hb⟩
  go_wp2_with fail
  refine (sort0 _).mono ?_
  rintro e w2 ⟨rfl, rfl⟩
  go_wp2
  go_ret
  exact ⟨rfl, hb⟩

set_option maxHeartbeats 1000000 in
theorem spans_any (b : Nat) (w : World) :
    Calls Try.prog 29 #[.pointer (some ⟨b, 0, none⟩)] w fun e w' =>
      e = .returned (.func (.func 38) #[] #[.pointer (some ⟨w.heap.size, 0, none⟩)]) ∧ w'.cell? ⟨w.heap.size, 0, none⟩ = some (.pointer (some ⟨b, 0, none⟩)) ∧ Below w.heap.size w w' := by
  go_enter Try.func29, Try.ntmps29
  go_wp2
  go_ret
  exact ⟨rfl, by simp, (Below.refl _ _).alloc (Nat.le_refl _) _⟩

set_option maxRecDepth 100000 in
set_option maxHeartbeats 2000000 in
theorem spans_stops0 (n : Nat) (hn : 3 ≤ n) (B b m : Nat) (Kp : World → World → Prop) (w : World) (hB : w.cell? ⟨B, 0, none⟩ = some (.pointer (some ⟨b, 0, none⟩))) (hb : w.cell? ⟨b, 1, none⟩ = some (.map (some m))) (hm : Bare w m) :
    SeqStopsK Fence.wide n Try.prog 38 #[.pointer (some ⟨B, 0, none⟩)] (fun _ : Unit => #[.agg #[.int .i32 0, .int .i32 0], .int .i64 0]) Kp (fun xs => xs = []) (fun _ => False) 0 w := fun l J Jx W hW hJ hJx hY h0 => by
  have hBW : W.cell? ⟨B, 0, none⟩ = some (.pointer (some ⟨b, 0, none⟩)) := (hW.cell (p := ⟨B, 0, none⟩) (cell_lt hB)).trans hB
  have hbW : W.cell? ⟨b, 1, none⟩ = some (.map (some m)) := (hW.cell (p := ⟨b, 1, none⟩) (cell_lt hb)).trans hb
  have hmW := hm.below hW rfl
  clear hY hJx
  refine callsIn_of_wp Try.func38 rfl trivial ?_ rfl
  simp only [Try.ntmps38, List.size_toArray, List.length_cons, List.length_nil, Nat.reduceAdd, Nat.reduceSub, Array.replicate_succ, Array.replicate_zero, List.push_toArray, List.append_toArray, List.nil_append, List.cons_append]
  gi_wp2
  refine ⟨trivial, fun _ => by omega, ?_⟩
  refine (callsIn_wide.2 (keys_any m W)).mono ?_
  rintro e w1 ⟨rfl, hc1, hb1⟩
  have hm1 := hmW.below hb1 rfl
  gi_wp2
  refine ⟨trivial, fun _ => by omega, ?_⟩
  refine (callsIn_wide.2 (sorted0 _ m w1 hc1 hm1)).mono ?_
  rintro e w2 ⟨rfl, hb2⟩
  have hbb2 : Below W.heap.size W w2 := hb1.trans (hb2.mono hb1.size)
  have hJ2 : J [] w2 := hJ [] W w2 none h0 (below_grown hbb2) (by simp)
  have HJ2 := Lib.hid hJ2
  clear hJ2 hJ h0
  gi_wp2
  gi_loopw [15] (fun i wr => i = .int .i64 0 ∧ wr = w2) (fun _ _ => 0)
  case atStart => exact ⟨rfl, rfl⟩
  case round =>
    obtain ⟨rfl, rfl⟩ := hrel
    gi_wp2
    go_end0
    exact ⟨⟨_, rfl⟩, .inl ⟨[], rfl, HJ2.out⟩⟩

set_option maxRecDepth 100000 in
set_option maxHeartbeats 2000000 in
theorem all0 (b m : Nat) (w : World) (hT : TabAt Try.prog w b m 0 (fun _ => 0)) :
    Calls Try.prog 15 #[.pointer (some ⟨b, 0, none⟩)] w fun e w' =>
      e = .returned (.func (.func 30) #[] #[.pointer (some ⟨w.heap.size, 0, none⟩), .pointer (some ⟨w.heap.size + 1, 0, none⟩)]) ∧
      w'.cell? ⟨w.heap.size, 0, none⟩ = some (.slice none 0 0) ∧ w'.cell? ⟨w.heap.size + 1, 0, none⟩ = some (.slice none 0 0) ∧ Below w.heap.size w w' := by
  refine (callsIn_wide (n := 8)).1 ?_
  refine callsIn_of_wp_marks Try.func15 rfl trivial ?_ rfl
  simp only [Try.ntmps15, List.size_toArray, List.length_cons, List.length_nil, Nat.reduceAdd, Nat.reduceSub, Array.replicate_succ, Array.replicate_zero, List.push_toArray, List.append_toArray, List.nil_append, List.cons_append]
  have hb1 := hT.blk.cell 1
  simp at hb1
  have hm := hT.bare
  clear hT
  gi_wp2
  obtain ⟨W0, hW0⟩ : ∃ W0, (w.alloc (.cells #[.slice none 0 0] 64)).alloc (.cells #[.slice none 0 0] 65) = W0 := ⟨_, rfl⟩
  have hs0 : W0.heap.size = w.heap.size + 2 := by rw [← hW0]; simp
  have hB0 : Below w.heap.size w W0 := by rw [← hW0]; exact ((Below.refl _ _).alloc (Nat.le_refl _) _).alloc (by simp) _
  have hA0 : W0.cell? ⟨w.heap.size, 0, none⟩ = some (.slice none 0 0) := by rw [← hW0]; simp
  have hA1 : W0.cell? ⟨w.heap.size + 1, 0, none⟩ = some (.slice none 0 0) := by rw [← hW0]; simp
  rw [hW0]
  clear hW0
  refine ⟨trivial, ?_⟩
  refine (callsIn_wide.2 (spans_any b W0)).mono ?_
  rintro e w1 ⟨rfl, hc1, hb01⟩
  gi_wp2
  have hbb1 : Below w.heap.size w w1 := hB0.trans (hb01.mono hB0.size)
  have hA01 : w1.cell? ⟨w.heap.size, 0, none⟩ = some (.slice none 0 0) := by rw [hb01.cell (p := ⟨w.heap.size, 0, none⟩) (cell_lt hA0)]; exact hA0
  have hA11 : w1.cell? ⟨w.heap.size + 1, 0, none⟩ = some (.slice none 0 0) := by rw [hb01.cell (p := ⟨w.heap.size + 1, 0, none⟩) (cell_lt hA1)]; exact hA1
  have hb11 : w1.cell? ⟨b, 1, none⟩ = some (.map (some m)) := by rw [hbb1.cell (p := ⟨b, 1, none⟩) (cell_lt hb1)]; exact hb1
  have hm1 : Bare w1 m := hm.below hbb1 rfl
  have hs1 := hb01.size
  rw [hs0] at hc1
  refine wpIn_rangeFunc_ownH (F := Fence.wide) rfl (by omega) (gf := 38) (lb := #[.pointer (some ⟨w.heap.size + 2, 0, none⟩)]) rfl trivial (enters_of Try.func38 (by kernel_rfl) rfl)
    (spans_stops0 7 (by omega) (w.heap.size + 2) b m KeepsWalks w1 hc1 hb11 hm1) walksK_t walksK_b (Below.refl _ _) (fun _ => rfl)
    (fun _ W => (W.cell? ⟨w.heap.size, 0, none⟩ = some (.slice none 0 0) ∧ W.cell? ⟨w.heap.size + 1, 0, none⟩ = some (.slice none 0 0)) ∧ Below w.heap.size w W)
    (fun _ _ _ => False)
    (OwnFrom.and (Own.from (fun s A B row hs hg hr => ⟨cell_kept hs.1 hg hr, cell_kept hs.2 hg hr⟩) _) (ownFrom_below (Nat.le_refl _) (by omega)))
    (fun _ _ _ _ _ hs _ _ => hs)
    ⟨⟨hA01, hA11⟩, hbb1⟩
    (fun _ _ _ => True) (fun _ _ _ _ _ _ _ _ _ => trivial) ?assign ?body ?done ?stop
  case assign =>
    intro l pre x W K hi hK
    gi_wp2
    have hbn : Below W.heap.size W (W.alloc (.cells #[.int .i32 0, .int .i32 0] 39)) := (Below.refl _ _).alloc (Nat.le_refl _) _
    exact hK _ _ ((below_others hbn).from _) (below_walks hbn)
      ⟨⟨(hbn.cell (p := ⟨w.heap.size, 0, none⟩) (cell_lt hi.1.1)).trans hi.1.1, (hbn.cell (p := ⟨w.heap.size + 1, 0, none⟩) (cell_lt hi.1.2)).trans hi.1.2⟩, hi.2.trans (hbn.mono hi.2.size)⟩ trivial
  case body =>
    rintro l pre x a' W _ _ _ _ h
    exact absurd h (Nat.not_lt_zero _)
  case stop =>
    rintro D c pre W _ h _ _
    exact h.elim
  case done =>
    rintro D xs W hD _ ⟨⟨hn0, hn1⟩, hB⟩ hK
    gi_wp2
    refine ⟨by simp, .inl ⟨_, _, rfl, run_takeDeferred hK, ?_⟩⟩
    refine ⟨_, results_tmp rfl _ _ _, rfl, ?_, ?_, hB.trans (belowK_b (w := w) (Nat.le_refl _) W D _ _ (by omega) hK rfl rfl)⟩
    · exact cell_kept hn0 (grownBy_putObj' _ D (.deferred none)) (fun r e => by cases e; exact ⟨_, hK, rfl⟩)
    · exact cell_kept hn1 (grownBy_putObj' _ D (.deferred none)) (fun r e => by cases e; exact ⟨_, hK, rfl⟩)

set_option maxRecDepth 100000 in
set_option maxHeartbeats 2000000 in
theorem nil_stopsI (F : Fence) (n : Nat) (hf : F.fn 30) (hro : F.round = none) (hn : 1 ≤ n) (A B : Nat) (Kp : World → World → Prop) (w : World) (hA : w.cell? ⟨A, 0, none⟩ = some (.slice none 0 0)) :
    SeqStopsK F n Try.prog 30 #[.pointer (some ⟨A, 0, none⟩), .pointer (some ⟨B, 0, none⟩)] (fun _ : Unit => #[.int .i64 0, .int .i64 0]) Kp (fun xs => xs = []) (fun _ => False) 0 w := fun l J Jx W hW hJ hJx hY h0 => by
  have hAw : A < w.heap.size := cell_lt hA
  have hAW : W.cell? ⟨A, 0, none⟩ = some (.slice none 0 0) := (hW.cell (p := ⟨A, 0, none⟩) hAw).trans hA
  clear hY
  refine callsIn_of_wp Try.func30 rfl hf ?_ hro
  simp only [Try.ntmps30, List.size_toArray, List.length_cons, List.length_nil, Nat.reduceAdd, Nat.reduceSub, Array.replicate_succ, Array.replicate_zero, List.push_toArray, List.append_toArray, List.nil_append, List.cons_append]
  gi_wp2
  gi_loopw [8] (fun i wr => i = .int .i64 0 ∧ wr = W) (fun _ _ => 0)
  case atStart => exact ⟨rfl, rfl⟩
  case round =>
    obtain ⟨rfl, rfl⟩ := hrel
    gi_wp2
    go_end0
    exact ⟨⟨_, rfl⟩, .inl ⟨[], rfl, h0⟩⟩

end Go.Proofs.Ytkpkcimghkmkfaa
