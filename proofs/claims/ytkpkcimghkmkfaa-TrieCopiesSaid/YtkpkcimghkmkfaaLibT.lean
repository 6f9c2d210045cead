/-
  Arrays of 256 integers: read, written, compared whole; a block that holds one.
-/
import Derived.Test.YtkpkcimghkmkfaaLibA
import Derived.Test.YtkpkcimghkmkfaaLibR
import Derived.Deep.MidRow
import Derived.ChangeKeysEq
import Derived.Maps.OwnSet
namespace Go.Proofs.Ytkpkcimghkmkfaa
open Go.RowKit

/-- the cells of an array of 256 integers -/
def cellsL (d : Nat → Int) : List Value := (List.range 256).map fun j => .int .i64 (d j)
def arrI (d : Nat → Int) : Array Value := (cellsL d).toArray

theorem cellsL_length (d : Nat → Int) : (cellsL d).length = 256 := by simp [cellsL]
theorem arrI_size (d : Nat → Int) : (arrI d).size = 256 := by simp [arrI, cellsL]
theorem cellsL_at (d : Nat → Int) (j : Nat) (h : j < 256) : (cellsL d)[j]? = some (.int .i64 (d j)) := by simp [cellsL, h]
theorem arrI_at (d : Nat → Int) (j : Nat) (h : j < 256) : (arrI d)[j]? = some (.int .i64 (d j)) := by simp [arrI, cellsL, h]
theorem cellsL_congr {d d' : Nat → Int} (h : ∀ j, j < 256 → d j = d' j) : cellsL d = cellsL d' := by
  unfold cellsL
  refine List.map_congr_left fun j hj => ?_
  rw [h j (List.mem_range.1 hj)]
theorem arrI_congr {d d' : Nat → Int} (h : ∀ j, j < 256 → d j = d' j) : arrI d = arrI d' := by unfold arrI; rw [cellsL_congr h]
theorem arrI_inj {d d' : Nat → Int} (h : arrI d = arrI d') : ∀ j, j < 256 → d j = d' j := by
  intro j hj
  have h1 := arrI_at d j hj
  rw [h, arrI_at d' j hj] at h1
  simpa using h1.symm
theorem arrI_replicate (z : Int) : Array.replicate 256 (Value.int .i64 z) = arrI (fun _ => z) := by
  apply Array.ext
  · simp [arrI_size]
  · intro i h1 h2
    have h3 : i < 256 := by simpa using h1
    have := arrI_at (fun _ => z) i h3
    rw [Array.getElem?_eq_getElem h2] at this
    simp only [Option.some.injEq] at this
    rw [this]; simp
theorem cells_one (d : Nat → Int) : ∀ v ∈ cellsL d, v.oneCell' = true := by
  intro v hv
  obtain ⟨j, _, rfl⟩ := List.mem_map.1 hv
  rfl

theorem RowF.rangeAt {w : World} {b o : Nat} {d : Nat → Int} (h : RowF .i64 w b o 256 d) : w.rangeAt b o (cellsL d) := by
  intro j v hv
  have hj : j < 256 := by have := (List.getElem?_eq_some_iff.1 hv).1; rwa [cellsL_length] at this
  rw [cellsL_at d j hj] at hv
  obtain rfl := Option.some.inj hv
  exact (h j hj).1

theorem RowF.thereI {w : World} {b o : Nat} {d : Nat → Int} (h : RowF .i64 w b o 256 d) : w.there b o 256 := fun j hj => ⟨by rw [(h j hj).1]; rfl, (h j hj).2⟩

theorem RowF.stored {w : World} {b o : Nat} {d : Nat → Int} (d' : Nat → Int) (h : RowF .i64 w b o 256 d) : RowF .i64 (w.setCells b o (cellsL d')) b o 256 d' := by
  intro j hj
  have ht := h.thereI
  have hl := cellsL_length d'
  have h1 := World.rangeAt_setCells_same w b o (cellsL d') (by rw [hl]; exact ht) j _ (cellsL_at d' j hj)
  have h2 := World.there_setCells ht b o (cellsL d')
  exact ⟨h1, (h2 j hj).2⟩

theorem Keep.of_setCells (w : World) (b : Nat) : ∀ (vs : List Value) (o : Nat), Keep (fun j => j = b) w (w.setCells b o vs) := by
  intro vs
  induction vs generalizing w with
  | nil => intro o; exact Keep.refl _ _
  | cons v vs ih =>
    intro o
    exact (Keep.of_setCell w b o v).trans (ih _ (o + 1)) (fun _ _ h => h)

/-! comparing two arrays -/
theorem run_eqItems_int {P : Program} (d : Nat) {e : TypeId} (he : P.underlying e = some (.int .i64)) (f g : Nat → Int) (w : World) : ∀ is : List Nat, (∀ i ∈ is, i < 256) →
    (Op.eqItems (d + 1) e 1 (arrI f) (arrI g) is).run P w = .ok (is.all fun i => f i == g i) w := by
  have hpl : P.plainKey e = true := by simp [Program.plainKey, he]
  intro is
  induction is with
  | nil => intro _; simp [Op.eqItems]
  | cons i is ih =>
    intro h
    have hi := h i (List.mem_cons_self ..)
    have p1 := run_part_plain (P := P) w hpl (off := i * 1) (by rw [Nat.mul_one]; exact arrI_at f i hi)
    have p2 := run_part_plain (P := P) w hpl (off := i * 1) (by rw [Nat.mul_one]; exact arrI_at g i hi)
    have p3 := run_equalIn_int (P := P) w d e .i64 .i64 (f i) (g i) he
    have ih := ih (fun j hj => h j (List.mem_cons_of_mem _ hj))
    simp only [Op.eqItems, Sem.run_bind, p1, p2, p3, Result.andThen_ok]
    by_cases hb : f i = g i
    · simp [hb, ih]
    · simp [hb]

/-- do two arrays hold the same? -/
def sameB (f g : Nat → Int) : Bool := (List.range 256).all fun i => f i == g i
theorem sameB_iff (f g : Nat → Int) : sameB f g = true ↔ ∀ j, j < 256 → f j = g j := by simp [sameB]

theorem run_equal_arr {P : Program} {t e : TypeId} {i : TypeInfo} (hu : P.underlying t = some (.array 256 e)) (hi : P.info? e = some i) (hc : P.cellsOf e = 1) (he : P.underlying e = some (.int .i64)) (f g : Nat → Int) (w : World) :
    (Op.equalIn 10000 t (.agg (arrI f)) (.agg (arrI g))).run P w = .ok (sameB f g) w := by
  rw [run_equalIn_array w 9999 _ _ hu hi, hc, run_eqItems_int 9998 he f g w _ (fun i hi => List.mem_range.1 hi)]
  rfl

/-! at the operation: a whole array is stored, is loaded -/
theorem wpList_store_arr {P : Program} {ops : Array Oper} {rest : List Oper} {op : Oper} {a : Act} {w : World} {Q : Exit → Act → World → Prop} (hgd : op.guard = none) (ty : TypeId) (x y : Operand) (ho : op.op = .store ty x y)
    (b : Nat) (d d' : Nat → Int) (hx : a.eval x = .pointer (some ⟨b, 0, none⟩)) (hy : a.eval y = .agg (arrI d')) (hr : RowF .i64 w b 0 256 d) (hi : (P.info? ty).map (·.size) = some 256)
    (h : ∀ w', RowF .i64 w' b 0 256 d' → Keep (fun j => j = b) w w' → wpList P ops Q rest (a.put op.dst undef) w') : wpList P ops Q (op :: rest) a w :=
  wpList_store_mid hgd ty x y ho b 0 (arrI d') hx hy (by rw [arrI_size]; exact hr.thereI) (by rw [arrI_size]; exact hi) (all_oneCell_toArray (cells_one _))
    (h _ (hr.stored d') (Keep.of_setCells w b (cellsL d') 0))

theorem wpList_load_arr {P : Program} {ops : Array Oper} {rest : List Oper} {op : Oper} {a : Act} {w : World} {Q : Exit → Act → World → Prop} (hgd : op.guard = none) (ty : TypeId) (x : Operand) (ho : op.op = .load ty x)
    (b : Nat) (d : Nat → Int) (e : TypeId) (hx : a.eval x = .pointer (some ⟨b, 0, none⟩)) (hr : RowF .i64 w b 0 256 d) (hu : P.underlying ty = some (.array 256 e)) (hi : (P.info? ty).map (·.size) = some 256)
    (h : wpList P ops Q rest (a.put op.dst (.agg (arrI d))) w) : wpList P ops Q (op :: rest) a w :=
  wpList_load_mid hgd ty x ho b 0 hx (cellsL d) _ hr.rangeAt hu rfl (by rw [cellsL_length]; exact hi) h

theorem row_new (w : World) (d : Nat → Int) (T : TypeId) : RowF .i64 (w.alloc (.cells (arrI d) T)) w.heap.size 0 256 d := by
  intro j hj
  have hbk := Blk.new w (arrI d) T
  refine ⟨(hbk.cell (0 + j)).trans ?_, hbk.frozen _⟩
  rw [Nat.zero_add, arrI_at _ j hj]

theorem below_new {w w' : World} {o : Obj} (h : Keep (fun j => j = w.heap.size) (w.alloc o) w') : Below w.heap.size w w' ∧ w.heap.size < w'.heap.size := by
  have h1 : (w.alloc o).heap.size = w.heap.size + 1 := by simp
  exact ⟨((Below.refl _ _).alloc (Nat.le_refl _) o).trans (h.below (by omega) (fun j hj => by omega)), by have := h.size; omega⟩

end Go.Proofs.Ytkpkcimghkmkfaa
