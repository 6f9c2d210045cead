/-
  Layer 6 (trie): what goes through a table, block by block.
-/
import Derived.Test.YtkpkcimghkmkfaaTrL
import Derived.Test.YtkpkcimghkmkfaaLibP
import Derived.Stop.RegionWithIn
import Derived.LoopIn
namespace Go.Proofs.Ytkpkcimghkmkfaa
open Go.RowKit Go.Shelf
attribute [local go_sem] Oper.semAt_some

/-- what lies as it lay while a body writes its own slices: whatever is no cells of the types of these -/
def quietO (o : Obj) : Bool := o.isWalk || match o with | .cells _ t _ => !(t == 3 || t == 39 || t == 64 || t == 65) | _ => false
structure KeepT (W W' : World) : Prop where
  size : W.heap.size ≤ W'.heap.size
  same : ∀ (k : Nat) (o : Obj), W.heap[k]? = some o → quietO o = true → W'.heap[k]? = some o
theorem keepT_t {A B C : World} (h : KeepT A B) (k : KeepT B C) : KeepT A C := ⟨Nat.le_trans h.size k.size, fun j o h1 h2 => k.same j o (h.same j o h1 h2) h2⟩
theorem KeepT.refl (W : World) : KeepT W W := ⟨Nat.le_refl _, fun _ _ h _ => h⟩
theorem keepT_b {w : World} (W : World) (l : Nat) (o o' : Obj) (_ : w.heap.size ≤ l) (h : W.heap[l]? = some o) (hc : o.isCells = false) (hw : o.isWalk = false) : KeepT W (W.putObj l o') := by
  have hg := grownBy_putObj' W l o'
  refine ⟨hg.size, fun k x hx hq => ?_⟩
  by_cases e : k = l
  · subst e
    rw [h] at hx
    obtain rfl := Option.some.inj hx
    unfold quietO at hq
    rw [hw] at hq
    cases o <;> simp_all [Obj.isCells]
  · rw [hg.block k (Array.getElem?_eq_some_iff.1 hx).1 (fun e' => e (by simpa using e'))]; exact hx
theorem KeepT.of_below {n : Nat} {A B : World} (h : Below n A B) (hn : n = A.heap.size) : KeepT A B :=
  ⟨h.size, fun k o hk _ => (h.block k (by have := (Array.getElem?_eq_some_iff.1 hk).1; omega)).trans hk⟩

def Typed (w : World) (b : Nat) (T : TypeId) : Prop := ∃ cs, Blk w b cs T
theorem Typed.block {w w' : World} {b : Nat} {T : TypeId} (h : Typed w b T) (hq : quietO (.cells #[] T (0, 0)) = true) (k : KeepT w w') : w'.heap[b]? = w.heap[b]? := by
  obtain ⟨cs, h⟩ := h
  exact (k.same b _ h (by simpa [quietO, Obj.isWalk] using hq)).trans (show w.heap[b]? = _ from h).symm
theorem Typed.setCells {b : Nat} {T : TypeId} : ∀ (vs : List Value) (o : Nat) {w : World}, Typed w b T → Typed (w.setCells b o vs) b T := by
  intro vs
  induction vs with
  | nil => intro o w h; exact h
  | cons v vs ih => intro o w h; obtain ⟨cs, h⟩ := h; exact ih (o + 1) ⟨_, h.set o v⟩
theorem RowF.block {k : IntKind} {w w' : World} {blk off n : Nat} {d : Nat → Int} (h : RowF k w blk off n d) (he : w'.heap[blk]? = w.heap[blk]?) : RowF k w' blk off n d :=
  fun j hj => ⟨(World.cell?_of_block (w := w) (a := ⟨blk, off + j, none⟩) he).trans (h j hj).1, (World.frozen?_of_block (w := w) (a := ⟨blk, off + j, none⟩) he).trans (h j hj).2⟩

theorem wpListIn_store_arr {F : Fence} {nF : Nat} {P : Program} {ops : Array Oper} {rest : List Oper} {op : Oper} {a : Act} {w : World} {Q : Exit → Act → World → Prop} (hgd : op.guard = none) (ty : TypeId) (x y : Operand) (ho : op.op = .store ty x y)
    (b : Nat) (T : TypeId) (d d' : Nat → Int) (hx : a.eval x = .pointer (some ⟨b, 0, none⟩)) (hy : a.eval y = .agg (arrI d')) (hr : RowF .i64 w b 0 256 d) (hT : Typed w b T) (hi : (P.info? ty).map (·.size) = some 256)
    (h : ∀ w', RowF .i64 w' b 0 256 d' → Typed w' b T → Keep (fun j => j = b) w w' → wpListIn F nF P ops Q rest (a.put op.dst undef) w') : wpListIn F nF P ops Q (op :: rest) a w := by
  refine wpListIn_plain hgd fun K hK => ?_
  unfold Oper.wpIn
  refine ⟨by simp [Oper.about, ho], ?_⟩
  rw [Oper.semAt_plain F _ _ (by rw [ho]; intro c hc'; cases hc')]
  have hrun := run_storeAt_mid (P := P) w b 0 ty (arrI d') (by rw [arrI_size]; exact hr.thereI) (by rw [arrI_size]; exact hi) (all_oneCell_toArray (cells_one _))
  simp only [execOp, ho, hx, hy, Sem.run_bind, hrun, Result.andThen_ok, Sem.run_pure]
  exact hK _ _ (h _ (hr.stored d') (hT.setCells _ _) (Keep.of_setCells w b (cellsL d') 0))

/-- a block's numbers, out of the map -/
theorem MapAt.get {w : World} {m : Nat} {z : Int} {f : Nat → Int} (h : MapAt w m z f) {x : Nat} (hx : x ∈ keysB z f) :
    ∃ dv, (Instr.lookup 56 (.map (some m)) (.int .i32 x) false).run Try.prog w = .ok (.agg (arrI dv)) w ∧ ∀ j, j < 256 → dv j = f (x * 256 + j) := by
  obtain ⟨h1, h2⟩ := keysB_mem.1 hx
  obtain ⟨D, ho, hM⟩ := h
  obtain ⟨v, ps, hrun, hv⟩ := ho.lookup (keyed _ rfl) (map_ty _ rfl) (zero_ty _ rfl w) (arrR_mk _) (key_of _ rfl h1)
  obtain ⟨dv, rfl, hd⟩ := arrR_inv hv
  refine ⟨dv, hrun, ?_⟩
  rw [(hM.vals x h1 h2).2] at hd
  simp only [Prod.mk.injEq, and_true] at hd
  exact fun j hj => (datA_inj hd.1 j hj).symm

set_option maxHeartbeats 1000000 in
theorem spans_box (b : Nat) (w : World) :
    Calls Try.prog 29 #[.pointer (some ⟨b, 0, none⟩)] w fun e w' =>
      e = .returned (.func (.func 38) #[] #[.pointer (some ⟨w.heap.size, 0, none⟩)]) ∧ Boxed w' w.heap.size 23 (.pointer (some ⟨b, 0, none⟩)) ∧ Below w.heap.size w w' := by
  go_enter Try.func29, Try.ntmps29
  go_wp2
  go_ret
  exact ⟨rfl, Boxed.new _ _ _, (Below.refl _ _).alloc (Nat.le_refl _) _⟩

def encP (s : Pc) : Array Value := #[.agg #[.int .i32 (s.1.val : Int), .int .i32 (s.2.1.val : Int)], .int .i64 s.2.2]

/-- what the iterator reads -/
structure SpAt (w : World) (B b m : Nat) (z : Int) (f : Nat → Int) : Prop where
  box : Boxed w B 23 (.pointer (some ⟨b, 0, none⟩))
  blk : Blk w b #[.int .i64 z, .map (some m)] 58
  map : MapAt w m z f
theorem SpAt.keepT {w w' : World} {B b m : Nat} {z : Int} {f : Nat → Int} (h : SpAt w B b m z f) (k : KeepT w w') : SpAt w' B b m z f := by
  obtain ⟨D, ⟨es, clock, h1, h2⟩, h3⟩ := h.map
  exact ⟨k.same _ _ h.box rfl, k.same _ _ h.blk rfl, D, ⟨es, clock, k.same _ _ h1 rfl, h2⟩, h3⟩
theorem SpAt.below {w w' : World} {B b m n : Nat} {z : Int} {f : Nat → Int} (h : SpAt w B b m z f) (hb : Below n w w') (hn : n = w.heap.size) : SpAt w' B b m z f := h.keepT (KeepT.of_below hb hn)

theorem ownsRow_keepT {w w' : World} {base : Nat} {e : TypeId} {v : Value} {n : Nat} {xs : List Value} (h : w.ownsRow base e 1 v n xs) (hq : quietO (.cells #[] e (0, 0)) = true) (k : KeepT w w') : w'.ownsRow base e 1 v n xs := by
  refine ⟨h.1, ?_⟩
  rcases h.2 with h1 | ⟨g, cap, cur, rfl, h2, h3, h4⟩
  · exact .inl h1
  · exact .inr ⟨g, cap, cur, rfl, h2, k.same _ _ h3 (by simpa [quietO, Obj.isWalk] using hq), h4⟩

end Go.Proofs.Ytkpkcimghkmkfaa
