/-
  Layer 6 (trie): All, whatever the table: the longest ranges, in two slices of the call's own.
-/
import Derived.Test.YtkpkcimghkmkfaaTrN
import Derived.Test.YtkpkcimghkmkfaaLibQ
import Derived.Deep.AppendLies
import Derived.OneCell
namespace Go.Proofs.Ytkpkcimghkmkfaa
open Go.RowKit Go.Shelf
attribute [local go_sem] Oper.semAt_some

/-! rows whose elements are of some cells -/
def flat {α : Type} (f : α → List Value) (l : List α) : List Value := l.flatMap f
theorem flat_nil {α : Type} (f : α → List Value) : flat f [] = [] := rfl
theorem flat_snoc {α : Type} (f : α → List Value) (l : List α) (x : α) : flat f (l ++ [x]) = flat f l ++ f x := by simp [flat]
theorem flat_len {α : Type} {f : α → List Value} {k : Nat} (h : ∀ x, (f x).length = k) : ∀ l : List α, (flat f l).length = l.length * k := by
  intro l
  induction l with
  | nil => simp [flat]
  | cons x l ih =>
    have : flat f (x :: l) = f x ++ flat f l := by simp [flat]
    rw [this, List.length_append, ih, h, List.length_cons, Nat.succ_mul]; omega
theorem flat_at {α : Type} {f : α → List Value} {k : Nat} (h : ∀ x, (f x).length = k) (d : α) : ∀ (l : List α) (i j : Nat), i < l.length → j < k → (flat f l)[i * k + j]? = (f (l.getD i d))[j]? := by
  intro l
  induction l with
  | nil => intro i j hi; simp at hi
  | cons x l ih =>
    intro i j hi hj
    have e : flat f (x :: l) = f x ++ flat f l := by simp [flat]
    rw [e]
    cases i with
    | zero => rw [Nat.zero_mul, Nat.zero_add, List.getElem?_append_left (by rw [h]; exact hj)]; rfl
    | succ i =>
      rw [List.getElem?_append_right (by rw [h, Nat.succ_mul]; omega), h, Nat.succ_mul, show i * k + k + j - k = i * k + j by omega]
      rw [ih i j (by simpa using hi) hj]
      rfl

theorem ownsRow_shapeN {w : World} {B : Nat} {e : TypeId} {sz n : Nat} {v : Value} {xs : List Value} (h : w.ownsRow B e sz v n xs) :
    ∃ a cap, v = .slice a n cap ∧ n ≤ cap ∧ cap ≤ 9223372036854775807 ∧ ((a = none ∧ cap = 0 ∧ n = 0) ∨ ∃ g, a = some ⟨g, 0, none⟩ ∧ B ≤ g ∧ g < w.heap.size) := by
  rcases h.2 with ⟨rfl, rfl⟩ | ⟨g, cap, cur, rfl, hB, hg, hnc, hcm, hcs, htk⟩
  · exact ⟨none, 0, rfl, by simp, by simp, .inl ⟨rfl, rfl, rfl⟩⟩
  · exact ⟨_, cap, rfl, hnc, hcm, .inr ⟨g, rfl, hB, (Array.getElem?_eq_some_iff.1 hg).1⟩⟩

/-! rows and blocks under the growth of another row -/
theorem Blk.grown {w w' : World} {row : Option Nat} {p : Nat} {cs : Array Value} {T : TypeId} (h : Blk w p cs T) (hg : w.grownBy w' row) (hn : some p ≠ row) : Blk w' p cs T := (hg.block p h.lt hn).trans h
theorem blk_ne_row {w : World} {p : Nat} {cs : Array Value} {T e : TypeId} {B sz n : Nat} {v : Value} {xs : List Value} (h : Blk w p cs T) (hr : w.ownsRow B e sz v n xs) (hT : T ≠ e) : some p ≠ v.ownBlock := by
  rcases hr.2 with ⟨rfl, _⟩ | ⟨g, cap, cur, rfl, _, hgb, _⟩
  · simp [Value.ownBlock]
  · intro e'
    obtain rfl : p = g := by simpa [Value.ownBlock] using e'
    have := (show w.heap[p]? = _ from h).symm.trans hgb
    simp at this
    exact hT this.2
theorem rows_ne {w : World} {B e sz n B' e' sz' n' : Nat} {v v' : Value} {xs xs' : List Value} (h : w.ownsRow B e sz v n xs) (h' : w.ownsRow B' e' sz' v' n' xs') (he : e ≠ e') : v.ownBlock = none ∨ v.ownBlock ≠ v'.ownBlock := by
  rcases h.2 with ⟨rfl, _⟩ | ⟨g, cap, cur, rfl, _, hgb, _⟩
  · exact .inl rfl
  · exact .inr (blk_ne_row (T := e) (show Blk w g cur e from hgb) h' he)

structure ElemN (P : Program) (t e : TypeId) (z : Value) (size bytes : Nat) : Prop where
  ht : P.underlying t = some (.slice e)
  hi : ∃ i, P.info? e = some i ∧ i.zero = some z ∧ i.size = size ∧ i.bytes = bytes
  hz : z.cells.size = size
  hs : 0 < size
theorem ElemN.mk' {P : Program} {t e : TypeId} {z : Value} {size bytes : Nat} (ht : P.underlying t = some (.slice e)) (hz : z.cells.size = size) (hs : 0 < size)
    (h : (P.info? e).map (fun i => (i.zero, i.size, i.bytes)) = some (some z, size, bytes)) : ElemN P t e z size bytes := by
  obtain ⟨i, h1, h2, h3, h4⟩ := info_parts h
  exact ⟨ht, ⟨i, h1, h2, h3, h4⟩, hz, hs⟩
/-- one element more, at a step of a region that draws -/
theorem step_appendN {P : Program} {t e : TypeId} {z : Value} {size bytes : Nat} (E : ElemN P t e z size bytes) {w : World} {ops : Array Oper} {o : Oper} {a : Act} {K : Act → World → Prop} {Q : Exit → Act → World → Prop} {X : Prop} (hgd : o.guard = none) (s x : Operand)
    (ho : o.op = .call { callee := .builtin .append, args := #[s, x], argTypes := #[t, t] }) (base : Nat) (v : Value) (n : Nat) (xs : List Value) (hs : a.eval s = v) (hown : w.ownsRow base e size v n xs)
    (p : Nat) (cs : Array Value) (T : TypeId) (hp : Blk w p cs T) (hx : a.eval x = .slice (some ⟨p, 0, none⟩) 1 1) (hl : cs.toList.length = size) (h1 : ∀ u ∈ cs.toList, u.oneCell' = true) (hbytes : (n + 1) * bytes ≤ 140737488355328) (hn : n ≤ 140737488355328) (hbase : base ≤ w.heap.size)
    (h : ∀ g cap w', w'.ownsRow base e size (.slice (some ⟨g, 0, none⟩) (n + 1) cap) (n + 1) (xs ++ cs.toList) → w.grownBy w' v.ownBlock → (v.ownBlock = some g ∨ g = w.heap.size) → g < w'.heap.size → K (a.put o.dst (.slice (some ⟨g, 0, none⟩) (n + 1) cap)) w') :
    if Region.wanted o (yielded ops a.tmps) = true then Oper.wp P o a w K Q else X := by
  obtain ⟨i, hi, hz, hsz, hby⟩ := E.hi
  exact step_append_lies w hgd s x t ho base e i z size bytes E.ht hi hz hsz hby E.hz E.hs v n xs hs hown ⟨p, 0, none⟩ 1 1 cs.toList hx (by rw [hl, Nat.one_mul]) (World.news_of_block hp) h1 (by omega) (by unfold maxLen; omega) hbytes hbase _ rfl h

def cells2 (s : Pc) : List Value := [.int .i32 (s.1.val : Int), .int .i32 (s.2.1.val : Int)]
theorem cells2_len (s : Pc) : (cells2 s).length = 2 := rfl
def valP (s : Pc) : Value := .int .i64 s.2.2
def mg (pre : List Pc) : List Pc := pre.foldl mergeStep []
theorem mg_snoc (pre : List Pc) (x : Pc) : mg (pre ++ [x]) = mergeStep (mg pre) x := by simp [mg]
theorem mergeStep_le (l : List Pc) (x : Pc) : (mergeStep l x).length ≤ l.length + 1 := by
  rcases List.eq_nil_or_concat l with rfl | ⟨l0, y, rfl⟩
  · simp [mergeStep_nil]
  · rw [List.concat_eq_append, mergeStep_snoc]
    split <;> simp
theorem mg_le (pre : List Pc) : (mg pre).length ≤ pre.length := by
  refine snoc_ind (p := fun pre => (mg pre).length ≤ pre.length) (by simp [mg]) ?_ pre
  intro xs x ih
  rw [mg_snoc]
  have := mergeStep_le (mg xs) x
  simp; omega

def joins (L : List Pc) (x : Pc) : Bool := match L.getLast? with | some y => decide (y.2.1.val + 1 = x.1.val ∧ y.2.2 = x.2.2) | none => false
theorem joins_nil (x : Pc) : joins [] x = false := rfl
theorem joins_snoc (l : List Pc) (y x : Pc) : joins (l ++ [y]) x = decide (y.2.1.val + 1 = x.1.val ∧ y.2.2 = x.2.2) := by unfold joins; rw [List.getLast?_concat]
theorem joins_true {L : List Pc} {x : Pc} (h : joins L x = true) : ∃ l y, L = l ++ [y] ∧ y.2.1.val + 1 = x.1.val ∧ y.2.2 = x.2.2 ∧ mergeStep L x = l ++ [(y.1, x.2.1, y.2.2)] := by
  rcases List.eq_nil_or_concat L with rfl | ⟨l, y, rfl⟩
  · cases h
  · rw [List.concat_eq_append] at h ⊢
    rw [joins_snoc, decide_eq_true_eq] at h
    exact ⟨l, y, rfl, h.1, h.2, by rw [mergeStep_snoc, if_pos h]⟩
theorem joins_false {L : List Pc} {x : Pc} (h : joins L x = false) : mergeStep L x = L ++ [x] := by
  rcases List.eq_nil_or_concat L with rfl | ⟨l, y, rfl⟩
  · rfl
  · rw [List.concat_eq_append] at h ⊢
    rw [joins_snoc, decide_eq_false_iff_not] at h
    rw [mergeStep_snoc, if_neg h]

/-- the two slices that All makes -/
def CollI (n0 A B : Nat) (w0 : World) (pre : List Pc) (W : World) : Prop :=
  ((∃ v, Boxed W A 64 v ∧ W.ownsRow n0 39 2 v (mg pre).length (flat cells2 (mg pre)) ∧ True) ∧
   (∃ v, Boxed W B 65 v ∧ W.ownsRow n0 3 1 v (mg pre).length ((mg pre).map valP) ∧ True)) ∧ Below n0 w0 W
theorem collI_from (n0 A B C : Nat) (w0 : World) (h0 : n0 ≤ w0.heap.size) (hC : n0 ≤ C) : OwnFrom C (CollI n0 A B w0) :=
  OwnFrom.and ((OwnFrom.and ((holdsRow_own n0 A _ _ 2 (fun pre => (mg pre).length) (fun pre => flat cells2 (mg pre)) (fun _ _ => True)).from _) ((holdsRow_own n0 B _ _ 1 (fun pre => (mg pre).length) (fun pre => (mg pre).map valP) (fun _ _ => True)).from _))) (ownFrom_below h0 hC)

/-- the frame of a round, behind its assignments -/
def AxA (b A : Nat) (x : Pc) (a' : Act) (W : World) : Prop :=
  ∃ q, a' = { tmps := #[.pointer (some ⟨b, 0, none⟩), undef, .nilFunc, .pointer (some ⟨A, 0, none⟩), .pointer (some ⟨A + 1, 0, none⟩), .pointer (some ⟨q, 0, none⟩), .int .i64 x.2.2, undef, .pointer (some ⟨b, 0, none⟩), .bool true, .pointer (some ⟨b, 0, none⟩), .func (.func 38) #[] #[.pointer (some ⟨A + 2, 0, none⟩)], .agg #[.int .i32 (x.1.val : Int), .int .i32 (x.2.1.val : Int)], .int .i64 x.2.2, undef, undef, undef, undef, undef, undef, undef, undef, undef, undef, undef, undef, undef, undef, undef, undef, undef, undef, undef, undef, undef, undef, undef, undef, undef, undef, undef, undef, undef, undef, undef, undef, undef, undef, undef, undef, undef, undef, undef, undef, undef], defers := [] } ∧
    Blk W q #[.int .i32 (x.1.val : Int), .int .i32 (x.2.1.val : Int)] 39 ∧ ∃ vl, Boxed W A 64 vl ∧ vl.ownBlock ≠ some q
theorem blk_abides {W W' : World} {row : Option Nat} {q : Nat} {cs : Array Value} {T : TypeId} (h : Blk W q cs T) (hg : W.grownBy W' row) (hr : ∀ r, row = some r → ∃ o : Obj, W.heap[r]? = some o ∧ o.isCells = false) : Blk W' q cs T :=
  h.grown hg (fun e => by obtain ⟨o, ho, hc⟩ := hr q e.symm; rw [show W.heap[q]? = _ from h] at ho; cases ho; cases hc)
theorem axA_from (C b A : Nat) (x : Pc) (a' : Act) : OwnFrom C (fun (_ : Unit) W => AxA b A x a' W) := by
  rintro _ W W' row ⟨q, rfl, h1, vl, h2, h3⟩ hg hr
  exact ⟨q, rfl, blk_abides h1 hg (fun r e => (hr r e).2), vl, blk_abides (T := 64) h2 hg (fun r e => (hr r e).2), h3⟩

theorem KeepT.of_row {w w' : World} {B e sz n : Nat} {v : Value} {xs : List Value} (h : w.ownsRow B e sz v n xs) (hq : quietO (.cells #[] e (0, 0)) = false) (hg : w.grownBy w' v.ownBlock) : KeepT w w' := by
  refine ⟨hg.size, fun k o hk ho => (hg.block k (Array.getElem?_eq_some_iff.1 hk).1 fun e' => ?_).trans hk⟩
  rcases h.2 with ⟨rfl, _⟩ | ⟨g, cap, cur, rfl, _, hgb, _⟩
  · simp [Value.ownBlock] at e'
  · obtain rfl : k = g := by simpa [Value.ownBlock] using e'
    rw [hgb] at hk
    obtain rfl := Option.some.inj hk
    have : quietO (.cells cur e (0, 0)) = quietO (.cells #[] e (0, 0)) := by simp [quietO, Obj.isWalk]
    rw [this, hq] at ho
    cases ho
theorem KeepT.of_box {w : World} {b T : Nat} {v : Value} (u : Value) (h : Boxed w b T v) (hq : quietO (.cells #[] T (0, 0)) = false) : KeepT w (w.setCell ⟨b, 0, none⟩ u) := by
  have hg := grownBy_setCell' w b u
  refine ⟨hg.size, fun k o hk ho => (hg.block k (Array.getElem?_eq_some_iff.1 hk).1 fun e' => ?_).trans hk⟩
  obtain rfl : k = b := by simpa using e'
  rw [show w.heap[k]? = _ from h] at hk
  obtain rfl := Option.some.inj hk
  have : quietO (.cells #[v] T (0, 0)) = quietO (.cells #[] T (0, 0)) := by simp [quietO, Obj.isWalk]
  rw [this, hq] at ho
  cases ho
theorem KeepsOthers.of_row {w w' : World} {B e sz n : Nat} {v : Value} {xs : List Value} (h : w.ownsRow B e sz v n xs) (hg : w.grownBy w' v.ownBlock) : KeepsOthers w w' := by
  refine KeepsOthers.of_grownBy hg fun j o ej hj => ?_
  rcases h.2 with ⟨rfl, _⟩ | ⟨g, cap, cur, rfl, _, hgb, _⟩
  · simp [Value.ownBlock] at ej
  · obtain rfl : g = j := by simpa [Value.ownBlock] using ej
    rw [hgb] at hj; cases hj; rfl

/-- the worlds of a round of All -/
structure StA (w W : World) (q : Nat) (qc : Array Value) (vl vv rl rv : Value) (nl nv : Nat) (xl xv : List Value) (V : World) : Prop where
  bA : Boxed V w.heap.size 64 vl
  bB : Boxed V (w.heap.size + 1) 65 vv
  bq : Blk V q qc 39
  rl : V.ownsRow w.heap.size 39 2 rl nl xl
  rv : V.ownsRow w.heap.size 3 1 rv nv xv
  kt : KeepT W V
  ko : KeepsOthers W V
  bl : Below w.heap.size w V

theorem StA.alloc {w W : World} {q : Nat} {qc : Array Value} {vl vv rl rv : Value} {nl nv : Nat} {xl xv : List Value} {V : World} (h : StA w W q qc vl vv rl rv nl nv xl xv V) (o : Obj) : StA w W q qc vl vv rl rv nl nv xl xv (V.alloc o) :=
  ⟨h.bA.alloc o, h.bB.alloc o, h.bq.grown (World.grownBy_alloc V o none) (by simp), h.rl.alloc o, h.rv.alloc o, keepT_t h.kt (KeepT.of_below ((Below.refl _ _).alloc (Nat.le_refl _) o) rfl), h.ko.trans (KeepsOthers.alloc V o), h.bl.alloc h.bl.size o⟩
theorem StA.appL {w W : World} {q : Nat} {qc : Array Value} {vl vv rl rl' rv : Value} {nl nl' nv : Nat} {xl xl' xv : List Value} {V V' : World} (h : StA w W q qc vl vv rl rv nl nv xl xv V) (hq : rl.ownBlock ≠ some q) (hg : V.grownBy V' rl.ownBlock)
    (ho : V'.ownsRow w.heap.size 39 2 rl' nl' xl') : StA w W q qc vl vv rl' rv nl' nv xl' xv V' :=
  ⟨h.bA.kept hg (h.bA.not_row (by decide) h.rl), h.bB.kept hg (h.bB.not_row (by decide) h.rl), h.bq.grown hg hq.symm, ho, h.rv.kept hg (rows_ne h.rv h.rl (by decide)), keepT_t h.kt (KeepT.of_row h.rl rfl hg), h.ko.trans (KeepsOthers.of_row h.rl hg),
    h.bl.grown hg h.bl.size (fun j e => (h.rl.lt j e).1)⟩
theorem StA.appV {w W : World} {q : Nat} {qc : Array Value} {vl vv rl rv' rv : Value} {nl nv' nv : Nat} {xl xv xv' : List Value} {V V' : World} (h : StA w W q qc vl vv rl rv nl nv xl xv V) (hg : V.grownBy V' rv.ownBlock)
    (ho : V'.ownsRow w.heap.size 3 1 rv' nv' xv') : StA w W q qc vl vv rl rv' nl nv' xl xv' V' :=
  ⟨h.bA.kept hg (h.bA.not_row (by decide) h.rv), h.bB.kept hg (h.bB.not_row (by decide) h.rv), h.bq.grown hg (blk_ne_row h.bq h.rv (by decide)), h.rl.kept hg (rows_ne h.rl h.rv (by decide)), ho, keepT_t h.kt (KeepT.of_row h.rv rfl hg), h.ko.trans (KeepsOthers.of_row h.rv hg),
    h.bl.grown hg h.bl.size (fun j e => (h.rv.lt j e).1)⟩
theorem StA.holds {w W : World} {q : Nat} {a b : Value} {vl vv rl rv : Value} {nl nv : Nat} {xl xv : List Value} {V : World} (h : StA w W q #[a, b] vl vv rl rv nl nv xl xv V) :
    V.cell? ⟨w.heap.size, 0, none⟩ = some vl ∧ V.cell? ⟨w.heap.size + 1, 0, none⟩ = some vv ∧ V.cell? ⟨q, 0, none⟩ = some a ∧ V.cell? ⟨q, 1, none⟩ = some b :=
  ⟨h.bA.cell, h.bB.cell, by have := h.bq.cell 0; simpa using this, by have := h.bq.cell 1; simpa using this⟩
theorem StA.fin {w W : World} {q : Nat} {qc : Array Value} {vl vv rl rv : Value} {k : Nat} {L : List Pc} {x : Pc} {V : World} {pre : List Pc} {C : Nat} (h : StA w W q qc vl vv rl rv (k + 1) (k + 1) (flat cells2 L ++ cells2 x) (L.map valP ++ [valP x]) V) (hk : L.length = k)
    (hm : mg (pre ++ [x]) = L ++ [x]) : KeepsFrom C W ((V.setCell ⟨w.heap.size, 0, none⟩ rl).setCell ⟨w.heap.size + 1, 0, none⟩ rv) ∧ KeepT W ((V.setCell ⟨w.heap.size, 0, none⟩ rl).setCell ⟨w.heap.size + 1, 0, none⟩ rv) ∧
      CollI w.heap.size w.heap.size (w.heap.size + 1) w (pre ++ [x]) ((V.setCell ⟨w.heap.size, 0, none⟩ rl).setCell ⟨w.heap.size + 1, 0, none⟩ rv) := by
  have hB1 : Boxed (V.setCell ⟨w.heap.size, 0, none⟩ rl) (w.heap.size + 1) 65 vv := h.bB.kept (grownBy_setCell' V _ _) (by simp)
  have hl1 : (L ++ [x]).length = k + 1 := by simp [hk]
  refine ⟨((h.ko.trans (KeepsOthers.setCell _ _ _)).trans (KeepsOthers.setCell _ _ _)).from _, keepT_t (keepT_t h.kt (KeepT.of_box _ h.bA rfl)) (KeepT.of_box _ hB1 rfl), ⟨⟨rl, ?_, ?_, trivial⟩, ⟨rv, hB1.set _, ?_, trivial⟩⟩, ?_⟩
  · exact (h.bA.set rl).kept (grownBy_setCell' _ _ _) (by simp)
  · rw [hm, hl1, flat_snoc]
    exact ownsRow_setCell_other (ownsRow_setCell_other h.rl (h.bA.not_row (by decide) h.rl).symm _) (h.bB.not_row (by decide) h.rl).symm _
  · rw [hm, hl1, List.map_append]
    exact ownsRow_setCell_other (ownsRow_setCell_other h.rv (h.bA.not_row (by decide) h.rv).symm _) (h.bB.not_row (by decide) h.rv).symm _
  · exact (h.bl.setCell (p := ⟨w.heap.size, 0, none⟩) (Nat.le_refl _) _).setCell (p := ⟨w.heap.size + 1, 0, none⟩) (by simp) _

theorem set_flat (L0 : List Pc) (y y' : Pc) (h : y'.1 = y.1) : (flat cells2 (L0 ++ [y])).set (L0.length * 2 + 1) (.int .i32 (y'.2.1.val : Int)) = flat cells2 (L0 ++ [y']) := by
  rw [flat_snoc, flat_snoc, List.set_append_right _ _ (by rw [flat_len cells2_len]; omega), flat_len cells2_len]
  simp [cells2, h]
theorem ownPostG_normal {α : Type} {B : Nat} {Kp : World → World → Prop} {I : List α → World → Prop} {Ix : Code → List α → World → Prop} {xs : List α} {W W' : World} {a : Act} (h : KeepsFrom B W W' ∧ Kp W W' ∧ I xs W') : ownPostG B Kp I Ix xs W .normal a W' := h

set_option maxRecDepth 100000 in
set_option maxHeartbeats 4000000 in
theorem all_any (b m : Nat) (z : Int) (f : Nat → Int) (w : World) (hT : TabAt Try.prog w b m z f) :
    Calls Try.prog 15 #[.pointer (some ⟨b, 0, none⟩)] w fun e w' =>
      e = .returned (.func (.func 30) #[] #[.pointer (some ⟨w.heap.size, 0, none⟩), .pointer (some ⟨w.heap.size + 1, 0, none⟩)]) ∧
      ∃ l vl vv, Runs z f 1114112 l ∧ Boxed w' w.heap.size 64 vl ∧ w'.ownsRow w.heap.size 39 2 vl l.length (flat cells2 l) ∧
        Boxed w' (w.heap.size + 1) 65 vv ∧ w'.ownsRow w.heap.size 3 1 vv l.length (l.map valP) ∧ Below w.heap.size w w' := by
  refine (callsIn_wide (n := 9)).1 ?_
  refine callsIn_of_wp_marks Try.func15 rfl trivial ?_ rfl
  simp only [Try.ntmps15, List.size_toArray, List.length_cons, List.length_nil, Nat.reduceAdd, Nat.reduceSub, Array.replicate_succ, Array.replicate_zero, List.push_toArray, List.append_toArray, List.nil_append, List.cons_append]
  have hblk := hT.blk
  have hm := hT.mapAt
  clear hT
  gi_wp2
  obtain ⟨W0, hW0⟩ : ∃ W0, (w.alloc (.cells #[.slice none 0 0] 64)).alloc (.cells #[.slice none 0 0] 65) = W0 := ⟨_, rfl⟩
  have hs0 : W0.heap.size = w.heap.size + 2 := by rw [← hW0]; simp
  have hB0 : Below w.heap.size w W0 := by rw [← hW0]; exact ((Below.refl _ _).alloc (Nat.le_refl _) _).alloc (by simp) _
  have hA0 : Boxed W0 w.heap.size 64 (.slice none 0 0) := by rw [← hW0]; exact (Boxed.new _ _ _).alloc _
  have hA1 : Boxed W0 (w.heap.size + 1) 65 (.slice none 0 0) := by rw [← hW0]; have := Boxed.new (w.alloc (.cells #[.slice none 0 0] 64)) 65 (.slice none 0 0); simpa using this
  rw [hW0]
  clear hW0
  refine ⟨trivial, ?_⟩
  refine (callsIn_wide.2 (spans_box b W0)).mono ?_
  rintro e w1 ⟨rfl, hbx1, hb01⟩
  gi_wp2
  have hbb1 : Below w.heap.size w w1 := hB0.trans (hb01.mono hB0.size)
  have hA01 : Boxed w1 w.heap.size 64 (.slice none 0 0) := (hb01.block _ hA0.lt).trans hA0
  have hA11 : Boxed w1 (w.heap.size + 1) 65 (.slice none 0 0) := (hb01.block _ hA1.lt).trans hA1
  have hs1 := hb01.size
  have hS1 : SpAt w1 W0.heap.size b m z f := ⟨hbx1, hblk.below hbb1 hblk.lt, hm.below hbb1 rfl⟩
  rw [hs0] at hS1
  refine wpIn_rangeFunc_ownH (F := Fence.wide) rfl (by omega) (gf := 38) (lb := #[.pointer (some ⟨w.heap.size + 2, 0, none⟩)]) rfl trivial (enters_of Try.func38 (by kernel_rfl) rfl)
    (spans_stops _ rfl 8 (by omega) (w.heap.size + 2) b m z f w1 hS1) keepT_t keepT_b (Below.refl _ _) (fun _ => rfl)
    (CollI w.heap.size w.heap.size (w.heap.size + 1) w)
    (fun _ _ _ => False)
    (collI_from _ _ _ _ _ (Nat.le_refl _) hbb1.size)
    (fun _ _ _ _ _ hs _ _ => hs)
    ⟨⟨⟨_, hA01, World.ownsRow_nil _ _ _ _, trivial⟩, ⟨_, hA11, World.ownsRow_nil _ _ _ _, trivial⟩⟩, hbb1⟩
    (AxA b w.heap.size) (axA_from _ _ _) ?assign ?body ?done ?stop
  case assign =>
    intro l pre x W K hi hK
    unfold encP
    obtain ⟨⟨xa, hxa⟩, ⟨xb, hxb⟩, xv⟩ := x
    gi_wp2
    obtain ⟨⟨⟨vl, hvl, hrl, _⟩, ⟨vv, hvv, hrv, _⟩⟩, hB⟩ := hi
    have hbn : Below W.heap.size W (W.alloc (.cells #[.int .i32 (xa : Int), .int .i32 (xb : Int)] 39)) := (Below.refl _ _).alloc (Nat.le_refl _) _
    refine hK _ _ ((below_others hbn).from _) (KeepT.of_below hbn rfl) ⟨⟨⟨vl, hvl.alloc _, hrl.alloc _, trivial⟩, ⟨vv, hvv.alloc _, hrv.alloc _, trivial⟩⟩, hB.trans (hbn.mono hB.size)⟩ ⟨W.heap.size, rfl, Blk.new _ _ _, vl, hvl.alloc _, ?_⟩
    intro e
    have := (hrl.lt _ e).2
    omega
  case body =>
    rintro l pre x a' W hl0 ⟨rl, hrl0⟩ ⟨⟨⟨vl, hvl, hrl, _⟩, ⟨vv, hvv, hrv, _⟩⟩, hB⟩ ⟨q, rfl, hq, vl', hvl', hqn⟩ hlen
    obtain rfl : vl' = vl := by have := (show W.heap[w.heap.size]? = _ from hvl').symm.trans hvl; simpa using this
    clear hvl'
    obtain ⟨L, hL⟩ : ∃ L, mg pre = L := ⟨_, rfl⟩
    have hLs := mg_snoc pre x
    have hLl := mg_le pre
    rw [hL] at hrl hrv hLs hLl
    obtain ⟨k, hk⟩ : ∃ k, L.length = k := ⟨_, rfl⟩
    rw [hk] at hrl hrv hLl
    obtain ⟨ad, cap, rfl, hc1, hc2, had⟩ := ownsRow_shapeN hrl
    obtain ⟨ad2, cap2, rfl, hd1, hd2, had2⟩ := ownsRow_shapeN hrv
    have hbs := hB.size
    obtain ⟨xa, xb, xv⟩ := x
    obtain ⟨xa, hxa⟩ := xa
    obtain ⟨xb, hxb⟩ := xb
    dsimp only at hq ⊢
    have cA := hvl.cell
    have cB := hvv.cell
    have cq0 := hq.cell 0
    have cq1 := hq.cell 1
    simp at cq0 cq1
    have HQ := Lib.hid hq; clear hq
    have HVL := Lib.hid hvl; clear hvl
    have HVV := Lib.hid hvv; clear hvv
    have HRL := Lib.hid hrl; clear hrl
    have HRV := Lib.hid hrv; clear hrv
    have HK := Lib.hid hk; clear hk
    have HLS := Lib.hid hLs; clear hLs
    have HPL := Lib.hid hL; clear hL
    have HQN := Lib.hid hqn; clear hqn
    have HAD := Lib.hid had; clear had
    have HAD2 := Lib.hid had2; clear had2
    have hw1 : IntKind.i32.wrap ((xa : Int) - 1) = (xa : Int) - 1 := IntWalk.i32_in _ (by omega)
    gi_upto_region 8 with fail
    gi_cut [38] from 55 (fun s38 wz => ∃ nq, s38 = .bool (joins L (⟨xa, hxa⟩, ⟨xb, hxb⟩, xv)) ∧ wz = W.drewN nq)
    case first =>
      rcases List.eq_nil_or_concat L with hLe | ⟨L0, y, hLe⟩
      · have hk0 : decide (0 < k) = false := by have := HK.out; rw [hLe] at this; simp at this; exact decide_eq_false (by omega)
        refine wpIn_region_quiet_round rfl (by kernel_rfl) (by kernel_rfl) (by kernel_rfl) ?_
        repeat (gi_big_quiet_step (fail))
        refine wpQuietIn_nil ?_
        intro _ hw'
        obtain ⟨nq, hw''⟩ := hw'
        subst hw''
        gi_wp2
        gi_meet
        exact ⟨nq, by rw [hLe, joins_nil], rfl⟩
      · rw [List.concat_eq_append] at hLe
        obtain ⟨k0, hk0⟩ : ∃ k0, L0.length = k0 := ⟨_, rfl⟩
        have hkk : k0 + 1 = k := by have := HK.out; rw [hLe] at this; simp at this; omega
        obtain ⟨g, rfl⟩ : ∃ g, ad = some ⟨g, 0, none⟩ := by
          rcases HAD.out with ⟨_, _, h0⟩ | ⟨g, h, _⟩
          · omega
          · exact ⟨g, h⟩
        obtain ⟨g2, rfl⟩ : ∃ g, ad2 = some ⟨g, 0, none⟩ := by
          rcases HAD2.out with ⟨_, _, h0⟩ | ⟨g, h, _⟩
          · omega
          · exact ⟨g, h⟩
        have c1 : W.cell? ⟨g, k0 * 2 + 1, none⟩ = some (.int .i32 (y.2.1.val : Int)) := by
          rw [HRL.out.cellAt _ (by omega), flat_at cells2_len y L k0 1 (by rw [HK.out]; omega) (by omega), hLe]
          simp [hk0, cells2]
        have c2 : W.cell? ⟨g2, k0, none⟩ = some (.int .i64 y.2.2) := by
          rw [HRV.out.cellAt _ (by omega), List.getElem?_map, hLe]
          simp [← hk0, valP]
        have hj : joins L (⟨xa, hxa⟩, ⟨xb, hxb⟩, xv) = decide (y.2.1.val + 1 = xa ∧ y.2.2 = xv) := by rw [hLe, joins_snoc]
        have HJ := Lib.hid hj; clear hj
        obtain ⟨yb, hyb⟩ : ∃ yb, y.2.1.val = yb := ⟨_, rfl⟩
        obtain ⟨yv, hyv⟩ : ∃ yv, y.2.2 = yv := ⟨_, rfl⟩
        rw [hyb] at c1 HJ
        rw [hyv] at c2 HJ
        have i1 : (0 : Int) ≤ (k0 : Int) := by omega
        have i2 : (k0 : Int) < (k : Int) := by omega
        have i3 : decide (0 < k) = true := decide_eq_true (by omega)
        have hw2 : IntKind.i64.wrap ((k : Int) - 1) = (k0 : Int) := by rw [IntWalk.i64_in _ (by omega)]; omega
        clear hLe hyb hyv hk0
        have HKK := Lib.hid hkk; clear hkk
        by_cases e1 : (yb : Int) = (xa : Int) - 1
        · have e1' : ((yb : Int) == (xa : Int) - 1) = true := by rw [beq_iff_eq]; exact e1
          have E1 := Lib.hid e1; clear e1
          refine wpIn_region_quiet_round rfl (by kernel_rfl) (by kernel_rfl) (by kernel_rfl) ?_
          repeat (gi_big_quiet_step (fail))
          refine wpQuietIn_nil ?_
          intro _ hw'
          obtain ⟨nq, hw''⟩ := hw'
          subst hw''
          gi_wp2
          gi_meet
          have hfin : (yv == xv) = joins L (⟨xa, hxa⟩, ⟨xb, hxb⟩, xv) := by
            rw [HJ.out, Bool.eq_iff_iff, beq_iff_eq, decide_eq_true_eq]
            have := E1.out
            exact ⟨fun h => ⟨by omega, h⟩, fun h => h.2⟩
          exact ⟨nq, by rw [hfin], rfl⟩
        · have e1' : ((yb : Int) == (xa : Int) - 1) = false := by rw [← Bool.not_eq_true, beq_iff_eq]; exact e1
          have E1 := Lib.hid e1; clear e1
          refine wpIn_region_quiet_round rfl (by kernel_rfl) (by kernel_rfl) (by kernel_rfl) ?_
          repeat (gi_big_quiet_step (fail))
          refine wpQuietIn_nil ?_
          intro _ hw'
          obtain ⟨nq, hw''⟩ := hw'
          subst hw''
          gi_wp2
          gi_meet
          exact ⟨nq, by rw [HJ.out]; congr 1; rw [decide_eq_false (fun h => E1.out (by omega))], rfl⟩
    case rest =>
      obtain ⟨nq, rfl, hwc⟩ := hcut
      have hbc : Below W.heap.size W wc := by rw [hwc]; exact (Below.refl _ _).drewN _
      have hdA : wc.cell? ⟨w.heap.size, 0, none⟩ = some (.slice ad k cap) := by rw [hwc]; exact cA
      have hdB : wc.cell? ⟨w.heap.size + 1, 0, none⟩ = some (.slice ad2 k cap2) := by rw [hwc]; exact cB
      have hd0 : wc.cell? ⟨q, 0, none⟩ = some (.int .i32 (xa : Int)) := by rw [hwc]; exact cq0
      have hd1' : wc.cell? ⟨q, 1, none⟩ = some (.int .i32 (xb : Int)) := by rw [hwc]; exact cq1
      have HVL' := Lib.hid (show Boxed wc w.heap.size 64 (.slice ad k cap) from (hbc.block _ HVL.out.lt).trans HVL.out)
      have HVV' := Lib.hid (show Boxed wc (w.heap.size + 1) 65 (.slice ad2 k cap2) from (hbc.block _ HVV.out.lt).trans HVV.out)
      have HRL' := Lib.hid (show wc.ownsRow w.heap.size 39 2 (.slice ad k cap) k (flat cells2 L) by rw [hwc]; exact HRL.out)
      have HRV' := Lib.hid (show wc.ownsRow w.heap.size 3 1 (.slice ad2 k cap2) k (L.map valP) by rw [hwc]; exact HRV.out)
      have HBC := Lib.hid hbc; clear hbc
      clear cA cB cq0 cq1 hwc HVL HVV HRL HRV
      have hsz : w.heap.size ≤ wc.heap.size := Nat.le_trans hbs HBC.out.size
      cases hj : joins L (⟨xa, hxa⟩, ⟨xb, hxb⟩, xv) with
      | true =>
        obtain ⟨L0, y, hLe, hy1, hy2, hms⟩ := joins_true hj
        obtain ⟨k0, hk0⟩ : ∃ k0, L0.length = k0 := ⟨_, rfl⟩
        have hkk : k0 + 1 = k := by have := HK.out; rw [hLe] at this; simp at this; omega
        obtain ⟨g, rfl⟩ : ∃ g, ad = some ⟨g, 0, none⟩ := by
          rcases HAD.out with ⟨_, _, h0⟩ | ⟨g, h, _⟩
          · omega
          · exact ⟨g, h⟩
        have hgq : g ≠ q := fun e => HQN.out (by rw [e]; rfl)
        have c1 : wc.cell? ⟨g, k0 * 2 + 1, none⟩ = some (.int .i32 (y.2.1.val : Int)) := by
          rw [HRL'.out.cellAt _ (by omega), flat_at cells2_len y L k0 1 (by rw [HK.out]; omega) (by omega), hLe]
          simp [hk0, cells2]
        have f1 : wc.frozen? ⟨g, k0 * 2 + 1, none⟩ = false := HRL'.out.frozenAt _
        have i1 : (0 : Int) ≤ (k0 : Int) := by omega
        have i2 : (k0 : Int) < (k : Int) := by omega
        have hw2 : IntKind.i64.wrap ((k : Int) - 1) = (k0 : Int) := by rw [IntWalk.i64_in _ (by omega)]; omega
        have HJT := Lib.hid (And.intro hLe (And.intro hy1 (And.intro hy2 (And.intro hms (And.intro hk0 hkk))))); clear hLe hy1 hy2 hms hk0 hkk hj
        gi_wp2_with fail
        have hS0 : wc.drew.cell? ⟨w.heap.size, 0, none⟩ = some (.slice (some ⟨g, 0, none⟩) k cap) ∧ wc.drew.cell? ⟨q, 1, none⟩ = some (.int .i32 (xb : Int)) := ⟨hdA, hd1'⟩
        refine wpIn_region_E_round (fun w' => w'.cell? ⟨w.heap.size, 0, none⟩ = some (.slice (some ⟨g, 0, none⟩) k cap) ∧ w'.cell? ⟨q, 1, none⟩ = some (.int .i32 (xb : Int))) (fun j => j == 7) (by kernel_rfl) (by kernel_rfl) (fun _ _ h => h) ?_
        refine wpAnyE_takeD (i := 0) (d := some 39) (v := ?_) rfl rfl (by kernel_rfl) (by kernel_rfl) (by kernel_rfl) (by kernel_rfl) (fun _ _ _ h => h) (Or.inl ⟨by rfl, ?_⟩) (by assumption) ?_
        rotate_left
        · intro w hSw; (try dsimp only at hSw); go_simp; all_goals (with_reducible rfl)
        simp only [Act.put, List.setIfInBounds_toArray, List.set_cons_zero, List.set_cons_succ]
        refine wpAnyE_takeD (i := 1) (d := some 40) (v := ?_) rfl rfl (by kernel_rfl) (by kernel_rfl) (by kernel_rfl) (by kernel_rfl) (fun _ _ _ h => h) (Or.inl ⟨by rfl, ?_⟩) (by assumption) ?_
        rotate_left
        · intro w hSw; (try dsimp only at hSw); go_simp; all_goals (with_reducible rfl)
        simp only [Act.put, List.setIfInBounds_toArray, List.set_cons_zero, List.set_cons_succ]
        refine wpAnyE_takeD (i := 2) (d := some 41) (v := ?_) rfl rfl (by kernel_rfl) (by kernel_rfl) (by kernel_rfl) (by kernel_rfl) (fun _ _ _ h => h) (Or.inl ⟨by rfl, ?_⟩) (by assumption) ?_
        rotate_left
        · intro w hSw; (try dsimp only at hSw); go_simp; all_goals (with_reducible rfl)
        simp only [Act.put, List.setIfInBounds_toArray, List.set_cons_zero, List.set_cons_succ]
        refine wpAnyE_takeD (i := 3) (d := some 42) (v := ?_) rfl rfl (by kernel_rfl) (by kernel_rfl) (by kernel_rfl) (by kernel_rfl) (fun _ _ _ h => h) (Or.inl ⟨by rfl, ?_⟩) (by assumption) ?_
        rotate_left
        · intro w hSw; (try dsimp only at hSw); go_simp; all_goals (with_reducible rfl)
        simp only [Act.put, List.setIfInBounds_toArray, List.set_cons_zero, List.set_cons_succ]
        refine wpAnyE_takeD (i := 4) (d := some 43) (v := ?_) rfl rfl (by kernel_rfl) (by kernel_rfl) (by kernel_rfl) (by kernel_rfl) (fun _ _ _ h => h) (Or.inl ⟨by rfl, ?_⟩) (by assumption) ?_
        rotate_left
        · intro w hSw; (try dsimp only at hSw); go_simp; all_goals (with_reducible rfl)
        simp only [Act.put, List.setIfInBounds_toArray, List.set_cons_zero, List.set_cons_succ]
        refine wpAnyE_takeD (i := 5) (d := some 44) (v := ?_) rfl rfl (by kernel_rfl) (by kernel_rfl) (by kernel_rfl) (by kernel_rfl) (fun _ _ _ h => h) (Or.inl ⟨by rfl, ?_⟩) (by assumption) ?_
        rotate_left
        · intro w hSw; (try dsimp only at hSw); go_simp; all_goals (with_reducible rfl)
        simp only [Act.put, List.setIfInBounds_toArray, List.set_cons_zero, List.set_cons_succ]
        refine wpAnyE_takeD (i := 6) (d := some 45) (v := ?_) rfl rfl (by kernel_rfl) (by kernel_rfl) (by kernel_rfl) (by kernel_rfl) (fun _ _ _ h => h) (Or.inl ⟨by rfl, ?_⟩) (by assumption) ?_
        rotate_left
        · intro w hSw; (try dsimp only at hSw); go_simp; all_goals (with_reducible rfl)
        simp only [Act.put, List.setIfInBounds_toArray, List.set_cons_zero, List.set_cons_succ]
        refine wpAnyE_ready (rs := [7]) (by kernel_rfl) (by simp) ?_
        refine AllE.cons rfl (fun K hK => ?_) AllE.nil
        go_simp
        refine hK.out _ _ (fun h => by simp at h) ?_
        clear hK K
        refine wpAnyE_done (by kernel_rfl) ?_ _
        gi_wp2
        obtain ⟨hLe, hy1, hy2, hms, hk0, hkk⟩ := HJT.out
        have hst := HRL'.out.stored (k0 * 2 + 1) (.int .i32 (xb : Int))
        obtain ⟨V, hV⟩ : ∃ V, wc.setCell ⟨g, k0 * 2 + 1, none⟩ (.int .i32 (xb : Int)) = V := ⟨_, rfl⟩
        rw [hV] at hst ⊢
        clear hV
        have hkV : KeepT wc V := KeepT.of_row HRL'.out rfl hst.2
        have hoV : KeepsOthers wc V := KeepsOthers.of_row HRL'.out hst.2
        have hkW := keepT_t (KeepT.of_below HBC.out rfl) hkV
        have hoW := (below_others HBC.out).trans hoV
        have hbW : Below w.heap.size w V := (hB.trans (HBC.out.mono hbs)).grown hst.2 hsz (fun j e => (HRL'.out.lt j e).1)
        have hlen1 : (L0 ++ [(y.1, (⟨xb, hxb⟩ : Fin 1114112), y.2.2)]).length = k := by simp; omega
        have hA' : Boxed V w.heap.size 64 _ := HVL'.out.kept hst.2 (HVL'.out.not_row (by decide) HRL'.out)
        have hB' : Boxed V (w.heap.size + 1) 65 _ := HVV'.out.kept hst.2 (HVV'.out.not_row (by decide) HRL'.out)
        have hrv' : V.ownsRow w.heap.size 3 1 _ k _ := HRV'.out.kept hst.2 (rows_ne HRV'.out HRL'.out (by decide))
        refine ownPostG_normal ⟨(⟨hoW.size, hoW.same⟩ : KeepsOthers W V.drew).from _, ⟨hkW.size, hkW.same⟩, ⟨⟨⟨_, hA', ?_, trivial⟩, ⟨_, hB', ?_, trivial⟩⟩, hbW.drew⟩⟩
        · rw [HLS.out, hms, hlen1, ← set_flat L0 y (y.1, ⟨xb, hxb⟩, y.2.2) rfl, hk0, ← hLe]
          exact hst.1
        · rw [HLS.out, hms, hlen1]
          have : (L0 ++ [(y.1, (⟨xb, hxb⟩ : Fin 1114112), y.2.2)]).map valP = L.map valP := by rw [hLe]; simp [valP]
          rw [this]
          exact hrv'
      | false =>
        have hms := joins_false hj
        have HMS := Lib.hid (HLS.out.trans hms); clear hms hj
        have hqc : Blk wc q #[.int .i32 (xa : Int), .int .i32 (xb : Int)] 39 := HQ.out.below HBC.out HQ.out.lt
        have hst0 : StA w W q #[.int .i32 (xa : Int), .int .i32 (xb : Int)] (.slice ad k cap) (.slice ad2 k cap2) (.slice ad k cap) (.slice ad2 k cap2) k k (flat cells2 L) (L.map valP) wc.drew :=
          ⟨HVL'.out, HVV'.out, hqc, HRL'.out, HRV'.out, ⟨HBC.out.size, (KeepT.of_below HBC.out rfl).same⟩, ⟨HBC.out.size, (below_others HBC.out).same⟩, (hB.trans (HBC.out.mono hbs)).drew⟩
        have el1 : ElemN Try.prog 64 39 (.agg #[.int .i32 0, .int .i32 0]) 2 8 := ElemN.mk' Try.underlying64 rfl (by decide) (by kernel_rfl)
        have el2 : ElemN Try.prog 65 3 (.int .i64 0) 1 8 := ElemN.mk' Try.underlying65 rfl (by decide) (by kernel_rfl)
        have HST := Lib.hid hst0
        have EL1 := Lib.hid el1; clear el1
        have EL2 := Lib.hid el2; clear el2
        gi_wp2_with fail
        have hS0 := hst0.holds
        clear hst0
        refine wpIn_region_E_round (fun w' => w'.cell? ⟨w.heap.size, 0, none⟩ = some (.slice ad k cap) ∧ w'.cell? ⟨w.heap.size + 1, 0, none⟩ = some (.slice ad2 k cap2) ∧ w'.cell? ⟨q, 0, none⟩ = some (.int .i32 (xa : Int)) ∧ w'.cell? ⟨q, 1, none⟩ = some (.int .i32 (xb : Int))) (fun j => j == 8 || j == 9) (by kernel_rfl) (by kernel_rfl) (fun _ _ h => h) ?_
        obtain ⟨V0, hV0⟩ : ∃ V, wc.drew = V := ⟨_, rfl⟩
        rw [hV0] at HST hS0 ⊢
        clear hV0
        refine wpAnyE_takeD (i := 0) (d := some 46) (v := ?_) rfl rfl (by kernel_rfl) (by kernel_rfl) (by kernel_rfl) (by kernel_rfl) (fun _ _ _ h => h) (Or.inl ⟨by rfl, ?_⟩) (by assumption) ?_
        rotate_left
        · intro w hSw; (try dsimp only at hSw); go_simp; all_goals (with_reducible rfl)
        simp only [Act.put, List.setIfInBounds_toArray, List.set_cons_zero, List.set_cons_succ]
        refine wpAnyE_takeD (i := 1) (d := some 47) (v := ?_) rfl rfl (by kernel_rfl) (by kernel_rfl) (by kernel_rfl) (by kernel_rfl) (fun _ _ _ h => h) (Or.inl ⟨by rfl, ?_⟩) (by assumption) ?_
        rotate_left
        · intro w hSw; (try dsimp only at hSw); go_simp; all_goals (with_reducible rfl)
        simp only [Act.put, List.setIfInBounds_toArray, List.set_cons_zero, List.set_cons_succ]
        refine wpAnyE_takeD (i := 4) (d := some 50) (v := ?_) rfl rfl (by kernel_rfl) (by kernel_rfl) (by kernel_rfl) (by kernel_rfl) (fun _ _ _ h => h) (Or.inl ⟨by rfl, ?_⟩) (by assumption) ?_
        rotate_left
        · intro w hSw; (try dsimp only at hSw); go_simp; all_goals (with_reducible rfl)
        simp only [Act.put, List.setIfInBounds_toArray, List.set_cons_zero, List.set_cons_succ]
        refine wpAnyE_takeD (i := 5) (d := some 51) (v := ?_) rfl rfl (by kernel_rfl) (by kernel_rfl) (by kernel_rfl) (by kernel_rfl) (fun _ _ _ h => h) (Or.inl ⟨by rfl, ?_⟩) (by assumption) ?_
        rotate_left
        · intro w hSw; (try dsimp only at hSw); go_simp; all_goals (with_reducible rfl)
        simp only [Act.put, List.setIfInBounds_toArray, List.set_cons_zero, List.set_cons_succ]
        clear hdA hdB hd0 hd1' HVL' HVV' HRL' HRV'
        refine wpAnyE_ready (rs := [2, 6]) (by kernel_rfl) (by simp) ?_
        refine AllE.cons rfl (fun K hK => ?_) (AllE.cons rfl (fun K hK => ?_) AllE.nil)
        · go_simp
          obtain ⟨V1, hV1, hp2⟩ : ∃ V', V0.alloc (.cells #[.int .i32 (xa : Int), .int .i32 (xb : Int)] 39) = V' ∧ Blk V' V0.heap.size #[.int .i32 (xa : Int), .int .i32 (xb : Int)] 39 := ⟨_, rfl, Blk.new _ _ _⟩
          have hsz1 : V0.heap.size < V1.heap.size := hp2.lt
          have HSt1_2 := Lib.hid (hV1 ▸ HST.out.alloc (.cells #[.int .i32 (xa : Int), .int .i32 (xb : Int)] 39))
          obtain ⟨p2, hpe2⟩ : ∃ p, V0.heap.size = p := ⟨_, rfl⟩
          rw [hpe2] at hp2 hsz1
          try rw [hV1]
          try rw [hpe2]
          refine hK.out _ _ (fun _ => HSt1_2.out.holds) ?_
          clear hK K
          clear hV1 hpe2 HST
          try simp only [Act.put, List.setIfInBounds_toArray, List.set_cons_zero, List.set_cons_succ]
          refine wpAnyE_ready (rs := [3, 6]) (by kernel_rfl) (by simp) ?_
          refine AllE.cons rfl (fun K hK => ?_) (AllE.cons rfl (fun K hK => ?_) AllE.nil)
          · refine step_appendN EL1.out rfl _ _ rfl w.heap.size _ k _ rfl HSt1_2.out.rl p2 #[.int .i32 (xa : Int), .int .i32 (xb : Int)] _ hp2 rfl rfl (by simp [Value.oneCell']) (by omega) (by omega) HSt1_2.out.bl.size ?_
            intro g3 cap3 V2 hown3 hgr3 _ _
            have HSt2_2_3 := Lib.hid (HSt1_2.out.appL HQN.out hgr3 hown3)
            refine hK.out _ _ (fun _ => HSt2_2_3.out.holds) ?_
            clear hK K
            clear HSt1_2 hown3 hgr3 hp2
            try simp only [Act.put, List.setIfInBounds_toArray, List.set_cons_zero, List.set_cons_succ]
            refine wpAnyE_ready (rs := [6]) (by kernel_rfl) (by simp) ?_
            refine AllE.cons rfl (fun K hK => ?_) AllE.nil
            go_simp
            obtain ⟨V3, hV3, hp6⟩ : ∃ V', V2.alloc (.cells #[.int .i64 xv] 3) = V' ∧ Blk V' V2.heap.size #[.int .i64 xv] 3 := ⟨_, rfl, Blk.new _ _ _⟩
            have hsz3 : V2.heap.size < V3.heap.size := hp6.lt
            have HSt3_2_3_6 := Lib.hid (hV3 ▸ HSt2_2_3.out.alloc (.cells #[.int .i64 xv] 3))
            obtain ⟨p6, hpe6⟩ : ∃ p, V2.heap.size = p := ⟨_, rfl⟩
            rw [hpe6] at hp6 hsz3
            try rw [hV3]
            try rw [hpe6]
            refine hK.out _ _ (fun _ => HSt3_2_3_6.out.holds) ?_
            clear hK K
            clear hV3 hpe6 HSt2_2_3
            try simp only [Act.put, List.setIfInBounds_toArray, List.set_cons_zero, List.set_cons_succ]
            refine wpAnyE_ready (rs := [7]) (by kernel_rfl) (by simp) ?_
            refine AllE.cons rfl (fun K hK => ?_) AllE.nil
            refine step_appendN EL2.out rfl _ _ rfl w.heap.size _ k _ rfl HSt3_2_3_6.out.rv p6 #[.int .i64 xv] _ hp6 rfl rfl (by simp [Value.oneCell']) (by omega) (by omega) HSt3_2_3_6.out.bl.size ?_
            intro g7 cap7 V4 hown7 hgr7 _ _
            have HSt4_2_3_6_7 := Lib.hid (HSt3_2_3_6.out.appV hgr7 hown7)
            refine hK.out _ _ (fun _ => HSt4_2_3_6_7.out.holds) ?_
            clear hK K
            clear HSt3_2_3_6 hown7 hgr7 hp6
            try simp only [Act.put, List.setIfInBounds_toArray, List.set_cons_zero, List.set_cons_succ]
            refine wpAnyE_ready (rs := [8]) (by kernel_rfl) (by simp) ?_
            refine AllE.cons rfl (fun K hK => ?_) AllE.nil
            have hbA := HSt4_2_3_6_7.out.bA.cell
            have hbAf := HSt4_2_3_6_7.out.bA.frozen
            go_simp
            refine hK.out _ _ (fun h => by simp at h) ?_
            clear hK K
            try simp only [Act.put, List.setIfInBounds_toArray, List.set_cons_zero, List.set_cons_succ]
            refine wpAnyE_ready (rs := [9]) (by kernel_rfl) (by simp) ?_
            refine AllE.cons rfl (fun K hK => ?_) AllE.nil
            have hbB := HSt4_2_3_6_7.out.bB.cell
            have hbBf := HSt4_2_3_6_7.out.bB.frozen
            go_simp
            refine hK.out _ _ (fun h => by simp at h) ?_
            clear hK K
            try simp only [Act.put, List.setIfInBounds_toArray, List.set_cons_zero, List.set_cons_succ]
            refine wpAnyE_done (by kernel_rfl) ?_ _
            gi_wp2
            exact ownPostG_normal (HSt4_2_3_6_7.out.fin HK.out HMS.out)
          · go_simp
            obtain ⟨V2, hV2, hp6⟩ : ∃ V', V1.alloc (.cells #[.int .i64 xv] 3) = V' ∧ Blk V' V1.heap.size #[.int .i64 xv] 3 := ⟨_, rfl, Blk.new _ _ _⟩
            have hsz2 : V1.heap.size < V2.heap.size := hp6.lt
            have HSt2_2_6 := Lib.hid (hV2 ▸ HSt1_2.out.alloc (.cells #[.int .i64 xv] 3))
            obtain ⟨p6, hpe6⟩ : ∃ p, V1.heap.size = p := ⟨_, rfl⟩
            rw [hpe6] at hp6 hsz2
            replace hp2 : Blk V2 p2 _ _ := hp2.grown (hV2 ▸ World.grownBy_alloc V1 (.cells #[.int .i64 xv] 3) none) (by simp)
            try rw [hV2]
            try rw [hpe6]
            refine hK.out _ _ (fun _ => HSt2_2_6.out.holds) ?_
            clear hK K
            clear hV2 hpe6 HSt1_2
            try simp only [Act.put, List.setIfInBounds_toArray, List.set_cons_zero, List.set_cons_succ]
            refine wpAnyE_ready (rs := [3]) (by kernel_rfl) (by simp) ?_
            refine AllE.cons rfl (fun K hK => ?_) AllE.nil
            refine step_appendN EL1.out rfl _ _ rfl w.heap.size _ k _ rfl HSt2_2_6.out.rl p2 #[.int .i32 (xa : Int), .int .i32 (xb : Int)] _ hp2 rfl rfl (by simp [Value.oneCell']) (by omega) (by omega) HSt2_2_6.out.bl.size ?_
            intro g3 cap3 V3 hown3 hgr3 _ _
            have HSt3_2_6_3 := Lib.hid (HSt2_2_6.out.appL HQN.out hgr3 hown3)
            replace hp6 : Blk V3 p6 _ _ := hp6.grown hgr3 (blk_ne_row hp6 HSt2_2_6.out.rl (by decide))
            refine hK.out _ _ (fun _ => HSt3_2_6_3.out.holds) ?_
            clear hK K
            clear HSt2_2_6 hown3 hgr3 hp2
            try simp only [Act.put, List.setIfInBounds_toArray, List.set_cons_zero, List.set_cons_succ]
            refine wpAnyE_ready (rs := [7]) (by kernel_rfl) (by simp) ?_
            refine AllE.cons rfl (fun K hK => ?_) AllE.nil
            refine step_appendN EL2.out rfl _ _ rfl w.heap.size _ k _ rfl HSt3_2_6_3.out.rv p6 #[.int .i64 xv] _ hp6 rfl rfl (by simp [Value.oneCell']) (by omega) (by omega) HSt3_2_6_3.out.bl.size ?_
            intro g7 cap7 V4 hown7 hgr7 _ _
            have HSt4_2_6_3_7 := Lib.hid (HSt3_2_6_3.out.appV hgr7 hown7)
            refine hK.out _ _ (fun _ => HSt4_2_6_3_7.out.holds) ?_
            clear hK K
            clear HSt3_2_6_3 hown7 hgr7 hp6
            try simp only [Act.put, List.setIfInBounds_toArray, List.set_cons_zero, List.set_cons_succ]
            refine wpAnyE_ready (rs := [8]) (by kernel_rfl) (by simp) ?_
            refine AllE.cons rfl (fun K hK => ?_) AllE.nil
            have hbA := HSt4_2_6_3_7.out.bA.cell
            have hbAf := HSt4_2_6_3_7.out.bA.frozen
            go_simp
            refine hK.out _ _ (fun h => by simp at h) ?_
            clear hK K
            try simp only [Act.put, List.setIfInBounds_toArray, List.set_cons_zero, List.set_cons_succ]
            refine wpAnyE_ready (rs := [9]) (by kernel_rfl) (by simp) ?_
            refine AllE.cons rfl (fun K hK => ?_) AllE.nil
            have hbB := HSt4_2_6_3_7.out.bB.cell
            have hbBf := HSt4_2_6_3_7.out.bB.frozen
            go_simp
            refine hK.out _ _ (fun h => by simp at h) ?_
            clear hK K
            try simp only [Act.put, List.setIfInBounds_toArray, List.set_cons_zero, List.set_cons_succ]
            refine wpAnyE_done (by kernel_rfl) ?_ _
            gi_wp2
            exact ownPostG_normal (HSt4_2_6_3_7.out.fin HK.out HMS.out)
        · go_simp
          obtain ⟨V1, hV1, hp6⟩ : ∃ V', V0.alloc (.cells #[.int .i64 xv] 3) = V' ∧ Blk V' V0.heap.size #[.int .i64 xv] 3 := ⟨_, rfl, Blk.new _ _ _⟩
          have hsz1 : V0.heap.size < V1.heap.size := hp6.lt
          have HSt1_6 := Lib.hid (hV1 ▸ HST.out.alloc (.cells #[.int .i64 xv] 3))
          obtain ⟨p6, hpe6⟩ : ∃ p, V0.heap.size = p := ⟨_, rfl⟩
          rw [hpe6] at hp6 hsz1
          try rw [hV1]
          try rw [hpe6]
          refine hK.out _ _ (fun _ => HSt1_6.out.holds) ?_
          clear hK K
          clear hV1 hpe6 HST
          try simp only [Act.put, List.setIfInBounds_toArray, List.set_cons_zero, List.set_cons_succ]
          refine wpAnyE_ready (rs := [2]) (by kernel_rfl) (by simp) ?_
          refine AllE.cons rfl (fun K hK => ?_) AllE.nil
          go_simp
          obtain ⟨V2, hV2, hp2⟩ : ∃ V', V1.alloc (.cells #[.int .i32 (xa : Int), .int .i32 (xb : Int)] 39) = V' ∧ Blk V' V1.heap.size #[.int .i32 (xa : Int), .int .i32 (xb : Int)] 39 := ⟨_, rfl, Blk.new _ _ _⟩
          have hsz2 : V1.heap.size < V2.heap.size := hp2.lt
          have HSt2_6_2 := Lib.hid (hV2 ▸ HSt1_6.out.alloc (.cells #[.int .i32 (xa : Int), .int .i32 (xb : Int)] 39))
          obtain ⟨p2, hpe2⟩ : ∃ p, V1.heap.size = p := ⟨_, rfl⟩
          rw [hpe2] at hp2 hsz2
          replace hp6 : Blk V2 p6 _ _ := hp6.grown (hV2 ▸ World.grownBy_alloc V1 (.cells #[.int .i32 (xa : Int), .int .i32 (xb : Int)] 39) none) (by simp)
          try rw [hV2]
          try rw [hpe2]
          refine hK.out _ _ (fun _ => HSt2_6_2.out.holds) ?_
          clear hK K
          clear hV2 hpe2 HSt1_6
          try simp only [Act.put, List.setIfInBounds_toArray, List.set_cons_zero, List.set_cons_succ]
          refine wpAnyE_ready (rs := [3]) (by kernel_rfl) (by simp) ?_
          refine AllE.cons rfl (fun K hK => ?_) AllE.nil
          refine step_appendN EL1.out rfl _ _ rfl w.heap.size _ k _ rfl HSt2_6_2.out.rl p2 #[.int .i32 (xa : Int), .int .i32 (xb : Int)] _ hp2 rfl rfl (by simp [Value.oneCell']) (by omega) (by omega) HSt2_6_2.out.bl.size ?_
          intro g3 cap3 V3 hown3 hgr3 _ _
          have HSt3_6_2_3 := Lib.hid (HSt2_6_2.out.appL HQN.out hgr3 hown3)
          replace hp6 : Blk V3 p6 _ _ := hp6.grown hgr3 (blk_ne_row hp6 HSt2_6_2.out.rl (by decide))
          refine hK.out _ _ (fun _ => HSt3_6_2_3.out.holds) ?_
          clear hK K
          clear HSt2_6_2 hown3 hgr3 hp2
          try simp only [Act.put, List.setIfInBounds_toArray, List.set_cons_zero, List.set_cons_succ]
          refine wpAnyE_ready (rs := [7]) (by kernel_rfl) (by simp) ?_
          refine AllE.cons rfl (fun K hK => ?_) AllE.nil
          refine step_appendN EL2.out rfl _ _ rfl w.heap.size _ k _ rfl HSt3_6_2_3.out.rv p6 #[.int .i64 xv] _ hp6 rfl rfl (by simp [Value.oneCell']) (by omega) (by omega) HSt3_6_2_3.out.bl.size ?_
          intro g7 cap7 V4 hown7 hgr7 _ _
          have HSt4_6_2_3_7 := Lib.hid (HSt3_6_2_3.out.appV hgr7 hown7)
          refine hK.out _ _ (fun _ => HSt4_6_2_3_7.out.holds) ?_
          clear hK K
          clear HSt3_6_2_3 hown7 hgr7 hp6
          try simp only [Act.put, List.setIfInBounds_toArray, List.set_cons_zero, List.set_cons_succ]
          refine wpAnyE_ready (rs := [8]) (by kernel_rfl) (by simp) ?_
          refine AllE.cons rfl (fun K hK => ?_) AllE.nil
          have hbA := HSt4_6_2_3_7.out.bA.cell
          have hbAf := HSt4_6_2_3_7.out.bA.frozen
          go_simp
          refine hK.out _ _ (fun h => by simp at h) ?_
          clear hK K
          try simp only [Act.put, List.setIfInBounds_toArray, List.set_cons_zero, List.set_cons_succ]
          refine wpAnyE_ready (rs := [9]) (by kernel_rfl) (by simp) ?_
          refine AllE.cons rfl (fun K hK => ?_) AllE.nil
          have hbB := HSt4_6_2_3_7.out.bB.cell
          have hbBf := HSt4_6_2_3_7.out.bB.frozen
          go_simp
          refine hK.out _ _ (fun h => by simp at h) ?_
          clear hK K
          try simp only [Act.put, List.setIfInBounds_toArray, List.set_cons_zero, List.set_cons_succ]
          refine wpAnyE_done (by kernel_rfl) ?_ _
          gi_wp2
          exact ownPostG_normal (HSt4_6_2_3_7.out.fin HK.out HMS.out)
  case stop =>
    rintro D c pre W _ _ h _
    exact h.elim
  case done =>
    rintro D xs W hD hp ⟨⟨⟨vl, hvl, hrl, _⟩, ⟨vv, hvv, hrv, _⟩⟩, hB⟩ hK
    gi_wp2
    refine ⟨by simp, .inl ⟨_, _, rfl, run_takeDeferred hK, ?_⟩⟩
    refine ⟨_, results_tmp rfl _ _ _, rfl, mg xs, vl, vv, runs_fold hp, ?_, ownsRow_putObj hrl _ hK rfl, ?_, ownsRow_putObj hrv _ hK rfl, hB.trans (belowK_b (w := w) (Nat.le_refl _) W D _ _ (by omega) hK rfl rfl)⟩
    · exact hvl.kept (grownBy_putObj' _ D (.deferred none)) (by intro e; cases e; rw [show W.heap[w.heap.size]? = _ from hvl] at hK; cases hK)
    · exact hvv.kept (grownBy_putObj' _ D (.deferred none)) (by intro e; cases e; rw [show W.heap[w.heap.size + 1]? = _ from hvv] at hK; cases hK)

end Go.Proofs.Ytkpkcimghkmkfaa
