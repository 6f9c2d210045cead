/-
  The law TrieNil, walked.
-/
import Derived.Test.YtkpkcimghkmkfaaTrF
import Derived.RangeFuncNested
import Derived.RangeFuncBound
import Derived.RangeFuncCalls
import Derived.RangeFuncLeaves
import Derived.RangeFuncFrom
import Derived.Shelf.Abstract
import Derived.Shelf.RegionOpen
import Derived.OwnWalkIn
import Derived.TacticsInMore
import Derived.LoopNIn
import Derived.LoopIn
namespace Go.Proofs.Ytkpkcimghkmkfaa
open Go.RowKit Go.Shelf
attribute [local go_sem] Oper.semAt_some

theorem equalIn_func {P : Program} {t : TypeId} {ps rs : Array TypeId} {v : Bool} (hu : P.underlying t = some (.func ps rs v)) (d : Nat) (fn : Fn) (bs cs : Array Value) (w : World) :
    (Op.equalIn (d + 1) t (.func fn bs cs) .nilFunc).run P w = .ok false w := by
  simp [Op.equalIn, run_underlying hu]
theorem func_not_nil {P : Program} {t : TypeId} {ps rs : Array TypeId} {v : Bool} (hu : P.underlying t = some (.func ps rs v)) (fn : Fn) (bs cs : Array Value) (w : World) :
    (binOp .eql t (.func fn bs cs) .nilFunc).run P w = .ok (.bool false) w := by
  have h := equalIn_func hu 9999 fn bs cs w
  simp only [binOp]
  simp only [Op.equal, Op.maxDepth, Functor.map, Sem.run_bind]
  simp [h]

set_option maxRecDepth 100000 in
set_option maxHeartbeats 2000000 in
theorem nil_stops (F : Fence) (n : Nat) (hf : F.fn 35) (hro : F.round = none) (hn : 1 ≤ n) (A B : Nat) (Kp : World → World → Prop) (w : World) (hA : w.cell? ⟨A, 0, none⟩ = some (.slice none 0 0)) :
    SeqStopsK F n Try.prog 35 #[.pointer (some ⟨A, 0, none⟩), .pointer (some ⟨B, 0, none⟩)] (fun _ : Unit => #[.int .i64 0, .int .i64 0]) Kp (fun xs => xs = []) (fun _ => False) 0 w := fun l J Jx W hW hJ hJx hY h0 => by
  have hAw : A < w.heap.size := cell_lt hA
  have hAW : W.cell? ⟨A, 0, none⟩ = some (.slice none 0 0) := (hW.cell (p := ⟨A, 0, none⟩) hAw).trans hA
  clear hY
  refine callsIn_of_wp Try.func35 rfl hf ?_ hro
  simp only [Try.ntmps35, List.size_toArray, List.length_cons, List.length_nil, Nat.reduceAdd, Nat.reduceSub, Array.replicate_succ, Array.replicate_zero, List.push_toArray, List.append_toArray, List.nil_append, List.cons_append]
  gi_wp2
  gi_loopw [8] (fun i wr => i = .int .i64 0 ∧ wr = W) (fun _ _ => 0)
  case atStart => exact ⟨rfl, rfl⟩
  case round =>
    obtain ⟨rfl, rfl⟩ := hrel
    gi_wp2
    go_end0
    exact ⟨⟨_, rfl⟩, .inl ⟨[], rfl, h0⟩⟩

set_option maxRecDepth 100000 in
set_option maxHeartbeats 2000000 in
theorem nil_in (fr up v r : Int) (w : World) :
    CallsIn Fence.wide 8 Try.prog 7 #[.agg #[.int .i32 fr, .int .i32 up, .int .i64 v], .int .i32 r] w fun e W' => e = .returned (.bool true) ∧ Below w.heap.size w W' := by
  have hnn := func_not_nil Try.underlying50
  refine callsIn_of_wp_marks Try.func7 rfl trivial ?_ rfl
  simp only [Try.ntmps7, List.size_toArray, List.length_cons, List.length_nil, Nat.reduceAdd, Nat.reduceSub, Array.replicate_succ, Array.replicate_zero, List.push_toArray, List.append_toArray, List.nil_append, List.cons_append]
  gi_wp2_with fail
  refine ⟨trivial, ?_⟩
  refine (callsIn_wide.2 (nil_all _)).mono ?_
  rintro e w2 ⟨rfl, hA, hB, hbl2⟩
  have hs1 : (w.alloc (.cells #[.int .i32 fr, .int .i32 up, .int .i64 v] 33)).heap.size = w.heap.size + 1 := by simp
  have hbl : Below w.heap.size w w2 := ((Below.refl _ w).alloc (Nat.le_refl _) _).trans (hbl2.mono (by omega))
  have hc0 : w2.cell? ⟨w.heap.size, 0, none⟩ = some (.int .i32 fr) := by rw [hbl2.cell (p := ⟨w.heap.size, 0, none⟩) (by show w.heap.size < _; omega)]; simp
  have hc1 : w2.cell? ⟨w.heap.size, 1, none⟩ = some (.int .i32 up) := by rw [hbl2.cell (p := ⟨w.heap.size, 1, none⟩) (by show w.heap.size < _; omega)]; simp
  have hs2 := hbl2.size
  rw [hs1] at hA hB hs2
  clear hbl2
  gi_wp2
  obtain ⟨W0, hW0⟩ : ∃ W0, w2.alloc (.cells #[.int .i64 0] 3) = W0 := ⟨_, rfl⟩
  have hs0 : W0.heap.size = w2.heap.size + 1 := by rw [← hW0]; simp
  have hB0 : Below w2.heap.size w2 W0 := by rw [← hW0]; exact (Below.refl _ _).alloc (Nat.le_refl _) _
  have hn0 : W0.cell? ⟨w2.heap.size, 0, none⟩ = some (.int .i64 0) := by rw [← hW0]; simp
  have hbW : Below w.heap.size w W0 := hbl.trans (hB0.mono hbl.size)
  have hcA : W0.cell? ⟨w.heap.size + 1, 0, none⟩ = some (.slice none 0 0) := by rw [hB0.cell (p := ⟨w.heap.size + 1, 0, none⟩) (cell_lt hA)]; exact hA
  have hc0' : W0.cell? ⟨w.heap.size, 0, none⟩ = some (.int .i32 fr) := by rw [hB0.cell (p := ⟨w.heap.size, 0, none⟩) (cell_lt hc0)]; exact hc0
  have hc1' : W0.cell? ⟨w.heap.size, 1, none⟩ = some (.int .i32 up) := by rw [hB0.cell (p := ⟨w.heap.size, 1, none⟩) (cell_lt hc1)]; exact hc1
  rw [hW0]
  clear hW0 hA hB hc0 hc1
  refine wpIn_rangeFunc_ownF (F := Fence.wide) rfl (by omega) (gf := 35) (lb := #[.pointer (some ⟨w.heap.size + 1, 0, none⟩), .pointer (some ⟨w.heap.size + 1 + 1, 0, none⟩)]) rfl trivial (enters_of Try.func35 (by kernel_rfl) rfl)
    (nil_stops Fence.wide 7 trivial rfl (by omega) (w.heap.size + 1) (w.heap.size + 1 + 1) KeepsWalks W0 hcA) walksK_t walksK_b (Below.refl _ _) (fun _ => rfl)
    (fun _ W => (W.cell? ⟨w2.heap.size, 0, none⟩ = some (.int .i64 0) ∧ W.cell? ⟨w.heap.size, 0, none⟩ = some (.int .i32 fr) ∧ W.cell? ⟨w.heap.size, 1, none⟩ = some (.int .i32 up)) ∧ Below w.heap.size w W)
    (fun _ _ _ => False)
    (OwnFrom.and (Own.from (fun s A B row hs hg hr => ⟨cell_kept hs.1 hg hr, cell_kept hs.2.1 hg hr, cell_kept hs.2.2 hg hr⟩) _) (ownFrom_below (Nat.le_refl _) (by omega)))
    (fun _ _ _ _ _ hs _ _ => hs)
    ⟨⟨hn0, hc0', hc1'⟩, hbW⟩
    (fun _ => { tmps := ?tm, defers := [] }) ?assign ?body ?done ?stop
  case assign =>
    intro l x W K hK
    gi_wp2
    exact hK
  case body =>
    rintro l pre x W _ h
    exact absurd h (Nat.not_lt_zero _)
  case stop =>
    rintro D c pre W _ h _ _
    exact h.elim
  case done =>
    rintro D xs W hD _ ⟨⟨hn1, hf0, hf1⟩, hB⟩ hK
    gi_wp2
    refine ⟨trivial, ?_⟩
    refine (callsIn_wide.2 (nil_set fr up _ W)).mono ?_
    rintro e w3 ⟨rfl, rfl⟩
    gi_wp2
    refine ⟨trivial, ?_⟩
    refine (callsIn_wide.2 (nil_get r W)).mono ?_
    rintro e w3 ⟨rfl, rfl⟩
    gi_wp2
    refine ⟨trivial, ?_⟩
    refine (callsIn_wide.2 (nil_blocks W)).mono ?_
    rintro e w3 ⟨rfl, rfl⟩
    gi_wp2
    refine ⟨trivial, ?_⟩
    refine (callsIn_wide.2 (nil_copy W)).mono ?_
    rintro e w3 ⟨rfl, rfl⟩
    gi_wp2
    refine ⟨trivial, ?_⟩
    refine (callsIn_wide.2 (awake_any W)).mono ?_
    rintro e w3 ⟨rfl, hb3⟩
    have hK3 : w3.heap[D]? = some (.deferred (some [])) := (hb3.block D (Array.getElem?_eq_some_iff.1 hK).1).trans hK
    gi_wp2
    refine ⟨by simp, .inl ⟨_, _, rfl, run_takeDeferred hK3, ?_⟩⟩
    refine ⟨_, results_tmp rfl _ _ _, rfl, (hB.trans (hb3.mono hB.size)).trans (belowK_b (w := w) (Nat.le_refl _) w3 D _ _ (by omega) hK3 rfl rfl)⟩

theorem nil_walk (fr up v r : Int) (w : World) :
    Calls Try.prog 7 #[.agg #[.int .i32 fr, .int .i32 up, .int .i64 v], .int .i32 r] w fun e W' => e = .returned (.bool true) ∧ Below w.heap.size w W' :=
  callsIn_wide.1 (nil_in fr up v r w)

end Go.Proofs.Ytkpkcimghkmkfaa
