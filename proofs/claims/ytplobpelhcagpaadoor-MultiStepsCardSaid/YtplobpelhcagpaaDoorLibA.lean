/-
  Words of my own over the model's worlds, no program in sight: a slice value that reads as a list of numbers.
-/
import Derived.WalkKit
import Derived.WalkSpells
import Derived.WalkLawsBesides
import Derived.Lib.Hide
import Derived.Deep.LoopGhost
import Derived.OwnWalk
namespace Go.Proofs.YtplobpelhcagpaaDoor
open Go.RowKit

/-- v reads, in w, as the list xs of numbers of the kind k -/
def Rd (k : IntKind) (w : World) (v : Value) (xs : List Int) : Prop :=
  ∃ a cap, v = .slice a xs.length cap ∧ xs.length ≤ cap ∧ cap ≤ 9223372036854775807 ∧
    (a = none → cap = 0) ∧ (xs = [] ∨ ∃ b off, a = some ⟨b, off, none⟩ ∧ ∀ j, j < xs.length → w.cell? ⟨b, off + j, none⟩ = some (.int k (xs.getD j 0)))

theorem cell_lt {w : World} {b o : Nat} {v : Value} (h : w.cell? ⟨b, o, none⟩ = some v) : b < w.heap.size :=
  World.block_lt_of_cell? w ⟨b, o, none⟩ h

theorem Rd.mono {k : IntKind} {w w' : World} {v : Value} {xs : List Int} (h : Rd k w v xs) {B : Nat} (hb : Below B w w') (hB : B = w.heap.size) : Rd k w' v xs := by
  obtain ⟨a, cap, hv, h1, h2, h0, h3⟩ := h
  refine ⟨a, cap, hv, h1, h2, h0, ?_⟩
  rcases h3 with h3 | ⟨b, off, ha, hc⟩
  · exact .inl h3
  · refine .inr ⟨b, off, ha, fun j hj => ?_⟩
    have := cell_lt (hc j hj)
    rw [hb.cell (by show b < B; omega)]
    exact hc j hj

theorem Rd.nil (k : IntKind) (w : World) : Rd k w (.slice none 0 0) [] := ⟨none, 0, rfl, by simp, by simp, fun _ => rfl, .inl rfl⟩

theorem ret_int {k : IntKind} {a b : Int} (h : a = b) : Ending.returned (.int k a) = .returned (.int k b) := by rw [h]
theorem ret_dec {p q : Prop} [Decidable p] [Decidable q] (h : p ↔ q) : Ending.returned (.bool (decide p)) = .returned (.bool (decide q)) := by
  rw [decide_eq_decide.2 h]
theorem ret_bool {a b : Bool} (h : a = b) : Ending.returned (.bool a) = .returned (.bool b) := by rw [h]
theorem ret_val {a b : Value} (h : a = b) : Ending.returned a = .returned b := by rw [h]

theorem bcell {W w1 : World} (hb : Below W.heap.size W w1) : (∀ b o, b < W.heap.size → w1.cell? ⟨b, o, none⟩ = W.cell? ⟨b, o, none⟩) ∧ (∀ b o, b < W.heap.size → w1.frozen? ⟨b, o, none⟩ = W.frozen? ⟨b, o, none⟩) :=
  ⟨fun b o h => hb.cell (p := ⟨b, o, none⟩) h, fun b o h => hb.frozen (p := ⟨b, o, none⟩) h⟩

theorem _root_.Go.RowKit.Below.drewN {B : Nat} {a w : World} (h : Below B a w) (n : Nat) : Below B a (w.drewN n) := ⟨h.os, h.tape, h.output, h.size, h.block⟩

/-- v is a slice of the call's own (its block lies at or beyond B) that holds the numbers xs -/
def Own (e : TypeId) (k : IntKind) (B : Nat) (w : World) (v : Value) (xs : List Int) : Prop := w.ownsRow B e 1 v xs.length (xs.map (Value.int k))

theorem Own.nil (e : TypeId) (k : IntKind) (B : Nat) (w : World) : Own e k B w (.slice none 0 0) [] := World.ownsRow_nil w B e 1

theorem Own.kept {e : TypeId} {k : IntKind} {B : Nat} {w w' : World} {v : Value} {xs : List Int} (h : Own e k B w v xs) {n : Nat} (hn : n = w.heap.size) (hb : Below n w w') : Own e k B w' v xs := by
  subst hn
  exact World.ownsRow.kept h (row := none) ⟨hb.os, hb.tape, hb.output, hb.size, fun k hk _ => hb.block k hk⟩ (by cases hv : v.ownBlock <;> simp)

theorem Own.drewN {e : TypeId} {k : IntKind} {B : Nat} {w : World} {v : Value} {xs : List Int} (h : Own e k B w v xs) (n : Nat) : Own e k B (w.drewN n) v xs := h
theorem Own.drew {e : TypeId} {k : IntKind} {B : Nat} {w : World} {v : Value} {xs : List Int} (h : Own e k B w v xs) : Own e k B w.drew v xs := h

theorem Own.rd {e : TypeId} {k : IntKind} {B : Nat} {w : World} {v : Value} {xs : List Int} (h : Own e k B w v xs) : Rd k w v xs := by
  unfold Own at h
  rcases h.2 with ⟨rfl, hn⟩ | ⟨g, cap, cur, rfl, hB, hg, hnc, hcm, hcs, htk⟩
  · have : xs = [] := List.eq_nil_of_length_eq_zero hn
    subst this; exact Rd.nil k w
  · refine ⟨some ⟨g, 0, none⟩, cap, rfl, hnc, hcm, (fun h => by cases h), .inr ⟨g, 0, rfl, fun j hj => ?_⟩⟩
    have := World.ownsRow.cellAt (w := w) (g := g) (n := xs.length) (cap := cap) h j (by omega)
    rw [Nat.zero_add, this]
    simp [hj]

theorem Own.lt {e : TypeId} {k : IntKind} {B : Nat} {w : World} {v : Value} {xs : List Int} (h : Own e k B w v xs) : ∀ j, v.ownBlock = some j → B ≤ j ∧ j < w.heap.size := World.ownsRow.lt h

/-- what an append leaves: the row, and all that was there but the row -/
theorem Own.appended {e : TypeId} {k : IntKind} {B : Nat} {w1 : World} {v' : Value} {xs ys : List Int} {n : Nat}
    (h : w1.ownsRow B e 1 v' n (xs.map (Value.int k) ++ ys.map (Value.int k))) : Own e k B w1 v' (xs ++ ys) := by
  have hn : n = (xs ++ ys).length := by have := h.1; simp at this; simp; omega
  subst hn
  unfold Own
  rw [List.map_append]
  exact h

theorem below_append {B : Nat} {w W0 w1 : World} {o : Obj} {v : Value} (h : Below B w W0) (hB : B ≤ W0.heap.size) (hg : (W0.alloc o).grownBy w1 v.ownBlock)
    (hlt : ∀ j, v.ownBlock = some j → B ≤ j ∧ j < W0.heap.size) : Below B w w1 :=
  (h.alloc hB o).grown hg (by simp; omega) (fun j hj => (hlt j hj).1)

theorem below_append' {B : Nat} {w W0 w1 : World} {v : Value} (h : Below B w W0) (hB : B ≤ W0.heap.size) (hg : W0.grownBy w1 v.ownBlock)
    (hlt : ∀ j, v.ownBlock = some j → B ≤ j ∧ j < W0.heap.size) : Below B w w1 :=
  h.grown hg hB (fun j hj => (hlt j hj).1)

theorem take_snoc (xs : List Int) (k : Nat) (h : k < xs.length) : xs.take (k + 1) = xs.take k ++ [xs.getD k 0] := by
  rw [List.take_succ_eq_append_getElem h]; simp [h]

/-! ### what a call may have turned: some blocks that it names, and new ones -/
structure Keep (S : Nat → Prop) (w w' : World) : Prop where
  os : w'.os = w.os
  tape : w'.tape = w.tape
  output : w'.output = w.output
  size : w.heap.size ≤ w'.heap.size
  block : ∀ k, k < w.heap.size → ¬ S k → w'.heap[k]? = w.heap[k]?

theorem Keep.refl (S : Nat → Prop) (w : World) : Keep S w w := ⟨rfl, rfl, rfl, Nat.le_refl _, fun _ _ _ => rfl⟩
theorem Keep.trans {S S' : Nat → Prop} {a b c : World} (h : Keep S a b) (k : Keep S' b c) (hs : ∀ j, j < a.heap.size → S' j → S j) : Keep S a c :=
  ⟨k.os.trans h.os, k.tape.trans h.tape, k.output.trans h.output, Nat.le_trans h.size k.size,
   fun j hj hn => (k.block j (Nat.lt_of_lt_of_le hj h.size) fun hs' => hn (hs j hj hs')).trans (h.block j hj hn)⟩
theorem Keep.weaken {S S' : Nat → Prop} {a b : World} (h : Keep S a b) (hs : ∀ j, j < a.heap.size → S j → S' j) : Keep S' a b :=
  ⟨h.os, h.tape, h.output, h.size, fun j hj hn => h.block j hj fun hs' => hn (hs j hj hs')⟩
theorem Keep.below {S : Nat → Prop} {B : Nat} {a b : World} (h : Keep S a b) (hB : B ≤ a.heap.size) (hs : ∀ j, S j → B ≤ j) : Below B a b :=
  ⟨h.os, h.tape, h.output, h.size, fun j hj => h.block j (by omega) fun hs' => by have := hs j hs'; omega⟩
theorem Keep.of_below {S : Nat → Prop} {n : Nat} {a b : World} (h : Below n a b) (hn : n = a.heap.size) : Keep S a b :=
  ⟨h.os, h.tape, h.output, h.size, fun j hj _ => h.block j (by omega)⟩
theorem Keep.of_grown {a b : World} {row : Option Nat} (h : a.grownBy b row) : Keep (fun j => row = some j) a b :=
  ⟨h.os, h.tape, h.output, h.size, fun j hj hn => h.block j hj fun e => hn e.symm⟩
theorem Keep.of_alloc (S : Nat → Prop) (w : World) (o : Obj) : Keep S w (w.alloc o) :=
  Keep.of_below ((Below.refl _ _).alloc (Nat.le_refl _) o) rfl
theorem Keep.of_drew (S : Nat → Prop) (w : World) : Keep S w w.drew := ⟨rfl, rfl, rfl, Nat.le_refl _, fun _ _ _ => rfl⟩
theorem Keep.of_drewN (S : Nat → Prop) (w : World) (n : Nat) : Keep S w (w.drewN n) := ⟨rfl, rfl, rfl, Nat.le_refl _, fun _ _ _ => rfl⟩
theorem Keep.of_setCell (w : World) (b i : Nat) (v : Value) : Keep (fun j => j = b) w (w.setCell ⟨b, i, none⟩ v) :=
  ⟨rfl, rfl, rfl, by simp [World.setCell], fun j _ hn => Below.heap_setCell _ _ _ _ hn⟩

theorem Rd.keep {k : IntKind} {S : Nat → Prop} {w w' : World} {v : Value} {xs : List Int} (h : Rd k w v xs) (hk : Keep S w w') (hs : ∀ j, v.ownBlock = some j → ¬ S j) : Rd k w' v xs := by
  obtain ⟨a, cap, hv, h1, h2, h0, h3⟩ := h
  refine ⟨a, cap, hv, h1, h2, h0, ?_⟩
  rcases h3 with h3 | ⟨b, off, ha, hc⟩
  · exact .inl h3
  · refine .inr ⟨b, off, ha, fun j hj => ?_⟩
    have hlt := cell_lt (hc j hj)
    subst ha
    have := hk.block b hlt (hs b (by subst hv; rfl))
    rw [World.cell?_of_block (w := w) (a := ⟨b, off + j, none⟩) this]
    exact hc j hj

theorem Own.keep {e : TypeId} {k : IntKind} {B : Nat} {S : Nat → Prop} {w w' : World} {v : Value} {xs : List Int} (h : Own e k B w v xs) (hk : Keep S w w')
    (hs : ∀ j, v.ownBlock = some j → ¬ S j) : Own e k B w' v xs := by
  unfold Own at h ⊢
  refine ⟨h.1, ?_⟩
  rcases h.2 with hn | ⟨g, cap, cur, rfl, hb, hgg, rest⟩
  · exact .inl hn
  · refine .inr ⟨g, cap, cur, rfl, hb, ?_, rest⟩
    rw [hk.block g (Array.getElem?_eq_some_iff.1 hgg).1 (hs g rfl)]
    exact hgg

theorem Own.mono {e : TypeId} {k : IntKind} {B B' : Nat} {w : World} {v : Value} {xs : List Int} (h : Own e k B w v xs) (hB : ∀ j, v.ownBlock = some j → B' ≤ j) : Own e k B' w v xs := by
  unfold Own at h ⊢
  refine ⟨h.1, ?_⟩
  rcases h.2 with hn | ⟨g, cap, cur, rfl, hb, rest⟩
  · exact .inl hn
  · exact .inr ⟨g, cap, cur, rfl, hB g rfl, rest⟩

theorem Own.shape {e : TypeId} {k : IntKind} {B : Nat} {w : World} {v : Value} {xs : List Int} (h : Own e k B w v xs) :
    ∃ a cap, v = .slice a xs.length cap ∧ xs.length ≤ cap ∧ cap ≤ 9223372036854775807 ∧ ((a = none ∧ cap = 0 ∧ xs = []) ∨ ∃ g, a = some ⟨g, 0, none⟩ ∧ B ≤ g ∧ g < w.heap.size) := by
  unfold Own at h
  rcases h.2 with ⟨rfl, hn⟩ | ⟨g, cap, cur, rfl, hB, hg, hnc, hcm, hcs, htk⟩
  · have : xs = [] := List.eq_nil_of_length_eq_zero hn
    subst this; exact ⟨none, 0, rfl, by simp, by simp, .inl ⟨rfl, rfl, rfl⟩⟩
  · exact ⟨_, cap, rfl, hnc, hcm, .inr ⟨g, rfl, hB, (Array.getElem?_eq_some_iff.1 hg).1⟩⟩

/-- a block of cells, whole -/
def Blk (w : World) (b : Nat) (cs : Array Value) (T : TypeId) : Prop := w.heap[b]? = some (.cells cs T (0, 0))

theorem Blk.lt {w : World} {b : Nat} {cs : Array Value} {T : TypeId} (h : Blk w b cs T) : b < w.heap.size := (Array.getElem?_eq_some_iff.1 h).1
theorem Blk.cell {w : World} {b : Nat} {cs : Array Value} {T : TypeId} (h : Blk w b cs T) (i : Nat) : w.cell? ⟨b, i, none⟩ = cs[i]? := by
  unfold Blk at h; simp [World.cell?, h]
theorem Blk.frozen {w : World} {b : Nat} {cs : Array Value} {T : TypeId} (h : Blk w b cs T) (i : Nat) : w.frozen? ⟨b, i, none⟩ = false := by
  unfold Blk at h; simp [World.frozen?, h]
theorem Blk.keep {S : Nat → Prop} {w w' : World} {b : Nat} {cs : Array Value} {T : TypeId} (h : Blk w b cs T) (hk : Keep S w w') (hs : ¬ S b) : Blk w' b cs T :=
  (hk.block b h.lt hs).trans h
theorem Blk.below {w w' : World} {b n : Nat} {cs : Array Value} {T : TypeId} (h : Blk w b cs T) (hk : Below n w w') (hn : b < n) : Blk w' b cs T :=
  (hk.block b hn).trans h
theorem Blk.set {w : World} {b : Nat} {cs : Array Value} {T : TypeId} (h : Blk w b cs T) (i : Nat) (v : Value) : Blk (w.setCell ⟨b, i, none⟩ v) b (cs.setIfInBounds i v) T := by
  exact heap_setCell_same w b i cs T v h
theorem Blk.new (w : World) (cs : Array Value) (T : TypeId) : Blk (w.alloc (.cells cs T)) w.heap.size cs T := heap_alloc_new w _

theorem Rd.lt {k : IntKind} {w : World} {v : Value} {xs : List Int} (h : Rd k w v xs) (hx : xs ≠ []) : ∀ j, v.ownBlock = some j → j < w.heap.size := by
  obtain ⟨a, cap, rfl, _, _, _, h3⟩ := h
  rcases h3 with h3 | ⟨b, off, rfl, hc⟩
  · exact absurd h3 hx
  · intro j hj
    simp [Value.ownBlock] at hj
    subst hj
    have : 0 < xs.length := List.length_pos_iff.2 hx
    exact cell_lt (hc 0 this)

theorem Rd.shape {k : IntKind} {w : World} {v : Value} {xs : List Int} (h : Rd k w v xs) : ∃ a cap, v = .slice a xs.length cap ∧ (a = none → cap = 0 ∧ xs = []) := by
  obtain ⟨a, cap, rfl, h1, _, h0, _⟩ := h
  refine ⟨a, cap, rfl, fun h => ⟨h0 h, ?_⟩⟩
  have := h0 h
  exact List.eq_nil_of_length_eq_zero (by omega)

end Go.Proofs.YtplobpelhcagpaaDoor
