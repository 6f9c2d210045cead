/-
  Layer 6 (trie): the library's Collect, Sort, Sorted at a table's blocks.
-/
import Derived.Test.YtkpkcimghkmkfaaTrK
import Derived.Test.YtkpkcimghkmkfaaS3Z
namespace Go.Proofs.Ytkpkcimghkmkfaa
open Go.RowKit Go.Shelf

set_option maxHeartbeats 1000000 in
theorem collect_any (B m : Nat) (z : Int) (f : Nat → Int) (w : World) (hB : w.cell? ⟨B, 0, none⟩ = some (.map (some m))) (hm : MapAt w m z f) :
    Calls Try.prog 44 #[.func (.func 46) #[] #[.pointer (some ⟨B, 0, none⟩)]] w fun e w' =>
      ∃ (v : Value) (xs : List Nat), e = .returned v ∧ xs.Perm (keysB z f) ∧ w'.ownsRow w.heap.size 21 1 v xs.length (xs.map encB) ∧ Below w.heap.size w w' := by
  have HC := Lib.hid (appendSeq_any B m z f w hB hm)
  clear hB hm
  go_enter Try.func44, Try.ntmps44
  go_wp2_with fail
  refine HC.out.mono ?_
  rintro e w1 ⟨v, xs, rfl, hp, hr, hb⟩
  go_wp2
  go_ret
  exact ⟨v, xs, rfl, hp, hr, hb⟩

theorem holds32 {w : World} {g : Nat} {cur : Array Value} {e : TypeId} {ss : List Int} (hb : w.heap[g]? = some (.cells cur e (0, 0))) (ht : cur.toList.take ss.length = ss.map (Value.int .i32)) : Sort.Holds (Value.int .i32) w g 0 ss.toArray := by
  intro j hj
  have hj' : j < ss.length := by simpa using hj
  refine ⟨?_, by simp [World.frozen?, hb]⟩
  have h1 : (cur.toList.take ss.length)[j]? = (ss.map (Value.int .i32))[j]? := by rw [ht]
  rw [List.getElem?_take_of_lt hj'] at h1
  simp only [World.cell?, hb, Nat.zero_add]
  simp only [Option.isSome_none, Bool.false_eq_true, if_false]
  rw [← Array.getElem?_toList, h1]
  simp [hj']

theorem heap_sorted32 {w : World} {g n : Nat} {os : Array Obj} {cur : Array Value} {e : TypeId} {fr : Nat × Nat} (d : Array Int) (hb : w.heap[g]? = some (.cells cur e fr)) :
    (Sort.grow (Sort.putRow (Value.int .i32) (Sort.ahead w n) g 0 d) os).heap[g]? = some (.cells (Sort.putCells (Value.int .i32) 0 d cur) e fr) := by
  have hg : g < w.heap.size := (Array.getElem?_eq_some_iff.1 hb).1
  rw [Sort.heap_grow_old _ _ (by simpa using hg)]
  simp [Sort.putRow, Sort.mapBlock, Sort.ahead, Array.getElem?_modify, hb, Sort.onCells]

theorem grownBy_sorted32 {w : World} {g n : Nat} {os : Array Obj} (d : Array Int) : w.grownBy (Sort.grow (Sort.putRow (Value.int .i32) (Sort.ahead w n) g 0 d) os) (some g) := by
  refine ⟨rfl, rfl, rfl, by simp, fun k hk hne => ?_⟩
  rw [Sort.heap_grow_old _ _ (by simpa using hk)]
  have : g ≠ k := fun e => hne (by rw [e])
  simp [Sort.putRow, Sort.mapBlock, Sort.ahead, Array.getElem?_modify, this]

theorem take_put32 (cur : Array Value) (ts : List Int) (h : ts.length ≤ cur.size) : (Sort.putCells (Value.int .i32) 0 ts.toArray cur).toList.take ts.length = ts.map (Value.int .i32) := by
  apply List.ext_getElem?
  intro j
  by_cases hj : j < ts.length
  · rw [List.getElem?_take_of_lt hj, Array.getElem?_toList]
    simp [Sort.putCells, hj, show j < cur.size by omega]
  · rw [List.getElem?_take_eq_none (by omega), List.getElem?_eq_none (by simp; omega)]

theorem ownsRow_sorted32 {w : World} {base g cap n : Nat} {e : TypeId} {os : Array Obj} {cur : Array Value} {k : Nat} {ts : List Int} (hl : ts.length = k) (hbase : base ≤ g) (hb : w.heap[g]? = some (.cells cur e (0, 0)))
    (h1 : k ≤ cap) (h2 : cap ≤ maxLen) (h3 : cur.size = cap * 1) :
    (Sort.grow (Sort.putRow (Value.int .i32) (Sort.ahead w n) g 0 ts.toArray) os).ownsRow base e 1 (.slice (some ⟨g, 0, none⟩) k cap) k (ts.map (Value.int .i32)) :=
  ⟨by simp [hl], .inr ⟨g, cap, _, rfl, hbase, heap_sorted32 _ hb, h1, h2, by simp [Sort.putCells, h3], by rw [Nat.mul_one, ← hl]; exact take_put32 cur ts (by omega)⟩⟩

def toI (a : Nat) : Int := (a : Int)

/-- what slices.Sort makes of a slice of the call's own that holds xs, if ys is sorted and has the same numbers -/
theorem sort_own (base : Nat) (v : Value) (xs ys : List Nat) (w : World) (hr : w.ownsRow base 21 1 v xs.length (xs.map encB)) (hp : xs.Perm ys) (hs : ys.Pairwise (fun a b => a ≤ b)) (hlen : xs.length ≤ 4352) (hB : base ≤ w.heap.size) :
    Calls Try.prog 45 #[v] w fun e w' => e = .returned (.tuple #[]) ∧ w'.ownsRow base 21 1 v ys.length (ys.map encB) ∧ Below base w w' := by
  have hln := hp.length_eq
  rcases hr.2 with ⟨rfl, h0⟩ | ⟨g, cap, cur, rfl, hbase, hb, h1, h2, h3, h4⟩
  · have hx : xs = [] := List.eq_nil_of_length_eq_zero h0
    subst hx
    have hy : ys = [] := List.eq_nil_of_length_eq_zero (by simpa using hln.symm)
    subst hy
    refine (sort0 w).mono ?_
    rintro e w' ⟨rfl, rfl⟩
    exact ⟨rfl, hr, Below.refl _ _⟩
  · have hzs : (xs.map encB) = (xs.map toI).map (Value.int .i32) := by rw [List.map_map]; rfl
    have hle : (xs.map toI).length = xs.length := by simp
    have hH : Sort.Holds (Value.int .i32) w g 0 (xs.map toI).toArray := holds32 hb (by rw [hle, ← hzs]; simpa using h4)
    have hsort : (xs.map toI).mergeSort (fun x y => decide (x ≤ y)) = ys.map toI := by
      have tr : ∀ a b c : Int, decide (a ≤ b) = true → decide (b ≤ c) = true → decide (a ≤ c) = true := fun a b c h1 h2 => by simp only [decide_eq_true_eq] at *; omega
      have tot : ∀ a b : Int, (decide (a ≤ b) || decide (b ≤ a)) = true := fun a b => by simp only [Bool.or_eq_true, decide_eq_true_eq]; omega
      refine List.Perm.eq_of_pairwise (le := fun a b => decide (a ≤ b) = true) (fun a b _ _ h1 h2 => ?_) (List.pairwise_mergeSort tr tot _) ?_ ((List.mergeSort_perm _ _).trans (hp.map _))
      · simp only [decide_eq_true_eq] at h1 h2; omega
      · refine List.pairwise_map.2 (hs.imp fun {a b} h => ?_)
        exact decide_eq_true (by unfold toI; omega)
    have h := sort32 g 0 cap (xs.map toI) w hH (Array.getElem?_eq_some_iff.1 hb).1 (by rw [hle]; omega)
    rw [hle, hsort] at h
    refine h.mono ?_
    rintro e w' ⟨rfl, n, os, rfl⟩
    have hym : (ys.map encB) = (ys.map toI).map (Value.int .i32) := by rw [List.map_map]; rfl
    refine ⟨rfl, ?_, (Below.refl _ _).grown (grownBy_sorted32 _) hB (fun j e => by cases e; exact hbase)⟩
    rw [hym, hln]
    exact ownsRow_sorted32 (by simp) hbase hb (by omega) h2 h3

theorem keysB_sorted (z : Int) (f : Nat → Int) : (keysB z f).Pairwise (fun a b => a ≤ b) :=
  (List.Pairwise.sublist List.filter_sublist List.pairwise_le_range)

set_option maxHeartbeats 1000000 in
theorem sorted_any (B m : Nat) (z : Int) (f : Nat → Int) (w : World) (hB : w.cell? ⟨B, 0, none⟩ = some (.map (some m))) (hm : MapAt w m z f) :
    Calls Try.prog 39 #[.func (.func 46) #[] #[.pointer (some ⟨B, 0, none⟩)]] w fun e w' =>
      ∃ v, e = .returned v ∧ w'.ownsRow w.heap.size 21 1 v (keysB z f).length ((keysB z f).map encB) ∧ Below w.heap.size w w' := by
  have HC := Lib.hid (collect_any B m z f w hB hm)
  clear hB hm
  go_enter Try.func39, Try.ntmps39
  go_wp2_with fail
  refine HC.out.mono ?_
  rintro e w1 ⟨v, xs, rfl, hp, hr, hb⟩
  have hl := hp.length_eq
  have hkl := keysB_len z f
  have HS := Lib.hid (sort_own w.heap.size v xs (keysB z f) w1 hr hp (keysB_sorted z f) (by omega) hb.size)
  clear hl hkl hr
  go_wp2_with fail
  refine HS.out.mono ?_
  rintro e w2 ⟨rfl, hr2, hb2⟩
  go_wp2
  go_ret
  exact ⟨v, rfl, hr2, hb.trans hb2⟩

end Go.Proofs.Ytkpkcimghkmkfaa
