/-
  Multi: the longest code.
-/
import Derived.Test.YtplobpelhcagpaaDoorMtM
namespace Go.Proofs.YtplobpelhcagpaaDoor
open Go.RowKit Go.Shelf Pl14
attribute [local go_sem] Oper.semAt_some

def longOf (xs : List (Nat × MRow)) : Nat := xs.foldl (fun m x => max m x.2.1.size) 0
theorem longOf_snoc (xs : List (Nat × MRow)) (x : Nat × MRow) : longOf (xs ++ [x]) = max (longOf xs) x.2.1.size := by simp [longOf]

theorem blk_stays {W W' : World} {row : Option Nat} {q : Nat} {cs : Array Value} {T : TypeId} (h : Blk W q cs T) (hg : W.grownBy W' row) (hr : ∀ r, row = some r → ∃ o : Obj, W.heap[r]? = some o ∧ o.isCells = false) : Blk W' q cs T :=
  h.grown hg (fun e => by obtain ⟨o, ho, hc⟩ := hr q e.symm; rw [show W.heap[q]? = _ from h] at ho; cases ho; cases hc)
theorem keepX_b {w : World} {X N : Nat} (hN : N ≤ w.heap.size) (W : World) (l : Nat) (o o' : Obj) (h1 : w.heap.size ≤ l) (_ : W.heap[l]? = some o) (_ : o.isCells = false) (_ : o.isWalk = false) : Keep (fun j => j = X ∨ N ≤ j) W (W.putObj l o') := by
  have hg := grownBy_putObj' W l o'
  exact ⟨hg.os, hg.tape, hg.output, hg.size, fun k hk hn => hg.block k hk (fun e => by cases e; exact hn (.inr (by omega)))⟩

set_option maxRecDepth 100000 in
set_option maxHeartbeats 4000000 in
theorem longest_any (cb : Nat) (vl : Value) (rs : List MRow) (w : World) (hc : w.cell? ⟨cb, 2, none⟩ = some vl) (hR : RdM w vl rs) :
    Calls Tryd.prog 26 #[.pointer (some ⟨cb, 0, none⟩)] w fun e w' => e = .returned (.int .i64 (longOf (pickL rs rs.length))) ∧ Below w.heap.size w w' := by
  have HR := Lib.hid hR
  obtain ⟨sa, scap, rfl, hs1, hs2, -, -⟩ := hR
  refine (callsIn_wide (n := 8)).1 ?_
  refine callsIn_of_wp_marks Tryd.func26 rfl trivial ?_ rfl
  simp only [Tryd.ntmps26, List.size_toArray, List.length_cons, List.length_nil, Nat.reduceAdd, Nat.reduceSub, Array.replicate_succ, Array.replicate_zero, List.push_toArray, List.append_toArray, List.nil_append, List.cons_append]
  have hcl := cell_lt hc
  gi_wp2_with fail
  refine ⟨trivial, ?_⟩
  refine (callsIn_wide.2 (pick_any sa rs.length scap _)).mono ?_
  rintro e w1 ⟨rfl, rfl⟩
  obtain ⟨nb, hnb⟩ : ∃ q, w.heap.size = q := ⟨_, rfl⟩
  obtain ⟨W3, hW3⟩ : ∃ W, ((w.alloc (.cells #[.int .i64 0] 3)).alloc (.cells #[.int .i64 3] 3)).alloc (.cells #[.slice sa rs.length scap] 22) = W := ⟨_, rfl⟩
  have hs3 : W3.heap.size = nb + 3 := by rw [← hW3, ← hnb]; simp
  have hb3 : Below nb w W3 := by rw [← hW3, ← hnb]; exact (((Below.refl _ _).alloc (Nat.le_refl _) _).alloc (by simp) _).alloc (by simp; omega) _
  have hn3 : Blk W3 nb #[.int .i64 0] 3 := by rw [← hW3, ← hnb]; exact ((Blk.new _ _ _).grown (World.grownBy_alloc _ _ none) (by simp)).grown (World.grownBy_alloc _ _ none) (by simp)
  have ha3 : Blk W3 (nb + 1) #[.int .i64 3] 3 := by
    rw [← hW3, ← hnb]
    have := (Blk.new (w.alloc (.cells #[.int .i64 0] 3)) #[.int .i64 3] 3).grown (World.grownBy_alloc _ (.cells #[.slice sa rs.length scap] 22) none) (by simp)
    simpa using this
  have hB3 : Blk W3 (nb + 1 + 1) #[.slice sa rs.length scap] 22 := by
    rw [← hW3, ← hnb]
    have := Blk.new ((w.alloc (.cells #[.int .i64 0] 3)).alloc (.cells #[.int .i64 3] 3)) #[.slice sa rs.length scap] 22
    simpa using this
  have hr3 : RdM W3 (.slice sa rs.length scap) rs := HR.out.mono hb3 hnb.symm
  have hca : W3.cell? ⟨nb + 1, 0, none⟩ = some (.int .i64 3) := by have := ha3.cell 0; simpa using this
  have hcb : W3.cell? ⟨nb + 1 + 1, 0, none⟩ = some (.slice sa rs.length scap) := by have := hB3.cell 0; simpa using this
  rw [hW3]
  simp only [World.size_alloc]
  rw [hnb]
  clear hW3 hcl hc ha3 hB3
  gi_wp2_with fail
  refine wpIn_rangeFunc_ownH (F := Fence.wide) rfl (by omega) (gf := 53) (lb := #[.pointer (some ⟨nb + 1, 0, none⟩), .pointer (some ⟨nb + 1 + 1, 0, none⟩)]) rfl trivial (enters_of Tryd.func53 (by kernel_rfl) rfl)
    (pick_stops 7 (by omega) (nb + 1) (nb + 1 + 1) nb (.slice sa rs.length scap) rs W3 hca hcb hr3 (by omega) (by omega) (fun j hne e => by have := HR.out.lt hne j e; omega)) (fun h k => h.trans k (fun _ _ h => h)) (keepX_b (Nat.le_refl _)) (Below.refl _ _) (fun _ => rfl)
    (fun pre W => Blk W nb #[.int .i64 (longOf pre)] 3 ∧ Below nb w W)
    (fun _ _ _ => False)
    (OwnFrom.and (fun s W W' row h hg hr => blk_stays h hg (fun r e => (hr r e).2)) (ownFrom_below (by omega) (by omega)))
    (fun _ _ _ _ _ hs _ _ => hs)
    ⟨hn3, hb3⟩
    (fun x a' W => ∃ q, a' = { tmps := #[.pointer (some ⟨cb, 0, none⟩), undef, .int .i64 0, .pointer (some ⟨nb, 0, none⟩), undef, .pointer (some ⟨q, 0, none⟩), .pointer (some ⟨cb, 0, none⟩), .bool true, .pointer (some ⟨cb, 0, none⟩), .pointer (some ⟨cb, 0, none⟩), .pointer (some ⟨cb, 2, none⟩), .slice sa rs.length scap, (.func (.func 53) #[] #[.pointer (some ⟨nb + 1, 0, none⟩), .pointer (some ⟨nb + 1 + 1, 0, none⟩)]), .int .i64 x.1, rowV x.2.1 x.2.2.1 x.2.2.2, undef, undef, undef, undef, undef, undef], defers := [] } ∧ Blk W q #[.string x.2.1, .string x.2.2.1, .int .i64 x.2.2.2] 47 ∧ q ≠ nb)
    (fun x a' => by rintro _ W W' row ⟨q, rfl, h1, h2⟩ hg hr; exact ⟨q, rfl, blk_stays h1 hg (fun r e => (hr r e).2), h2⟩) ?assign ?body ?done ?stop
  case assign =>
    intro l pre x W K hi hK
    unfold encR rowV
    obtain ⟨xi, xc, xt, xf⟩ := x
    gi_wp2
    have hbn : Below W.heap.size W (W.alloc (.cells #[.string xc, .string xt, .int .i64 xf] 47)) := (Below.refl _ _).alloc (Nat.le_refl _) _
    exact hK _ _ (KeepsOthers.from (KeepsOthers.alloc _ _) _) (Keep.of_below hbn rfl) ⟨hi.1.grown (World.grownBy_alloc _ _ none) (by simp), hi.2.trans (hbn.mono (by have := hi.1.lt; omega))⟩ ⟨W.heap.size, rfl, Blk.new _ _ _, fun e => by have := hi.1.lt; omega⟩
  case body =>
    rintro l pre x a' W hl0 ⟨rl, hrl0⟩ ⟨hnW, hbW⟩ ⟨q, rfl, hq, hqn⟩ hlenp
    obtain ⟨xi, xc, xt, xf⟩ := x
    unfold rowV
    have q0 : W.cell? ⟨q, 0, none⟩ = some (.string xc) := by have := hq.cell 0; simpa using this
    have n0 : W.cell? ⟨nb, 0, none⟩ = some (.int .i64 (longOf pre)) := by have := hnW.cell 0; simpa using this
    have nf : W.frozen? ⟨nb, 0, none⟩ = false := hnW.frozen 0
    have HNW := Lib.hid hnW; clear hnW
    have HBW := Lib.hid hbW; clear hbW
    clear hq
    gi_wp2
    have hmx : (max (longOf pre : Int) (xc.size : Int)) = ((longOf (pre ++ [(xi, xc, xt, xf)]) : Nat) : Int) := by rw [longOf_snoc]; simp only; omega
    rw [hmx]
    exact ⟨(KeepsOthers.setCell _ _ _).from _, (Keep.of_setCell _ _ _ _).weaken (fun j _ e => .inl e), HNW.out.set 0 _, HBW.out.trans ((Keep.of_setCell _ _ _ _).below (by have := HNW.out.lt; omega) (fun j e => by omega))⟩
  case stop =>
    rintro D c pre W _ _ h _
    exact h.elim
  case done =>
    rintro D xs W hD hxs ⟨hnW, hbW⟩ hK
    subst hxs
    have n0 : W.cell? ⟨nb, 0, none⟩ = some (.int .i64 (longOf (pickL rs rs.length))) := by have := hnW.cell 0; simpa using this
    clear hnW
    gi_wp2
    refine ⟨by simp, .inl ⟨_, _, rfl, run_takeDeferred hK, ?_⟩⟩
    refine ⟨_, results_tmp rfl _ _ _, rfl, ?_⟩
    rw [hnb]
    exact hbW.trans (belowK_b (w := W3) (by omega) W D _ _ (by omega) hK rfl rfl)

end Go.Proofs.YtplobpelhcagpaaDoor
