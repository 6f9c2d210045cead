/-
  Layer 6 (trie): same: is a table the document's answer's?
-/
import Derived.Test.YtkpkcimghkmkfaaTrT
import Derived.Test.YtkpkcimghkmkfaaTrP
import Derived.Test.YtkpkcimghkmkfaaLibN
import Derived.ControlIn
import Derived.Deep.QuietTactic
import Derived.BigQuiet
import Derived.Deep.CutBlock
import Derived.Deep.DeepCutAuto
namespace Go.Proofs.Ytkpkcimghkmkfaa
open Go.RowKit Go.Shelf
attribute [local go_sem] Oper.semAt_some

def atZ (z : Int) (f : Nat → Int) (x : Int) : Int := if 0 ≤ x ∧ x < 1114112 then f x.toNat else z
theorem atZ_congr {z : Int} {f g : Nat → Int} (h : ∀ r, r < 1114112 → f r = g r) (x : Int) : atZ z f x = atZ z g x := by
  unfold atZ
  split
  · exact h _ (by omega)
  · rfl

theorem get_anyZ (b m : Nat) (z : Int) (f : Nat → Int) (r : Int) (w : World) (ht : TabAt Try.prog w b m z f) (hr1 : -2147483648 ≤ r) (hr2 : r ≤ 2147483647) :
    Calls Try.prog 17 #[.pointer (some ⟨b, 0, none⟩), .int .i32 r] w fun e w' => e = .returned (.int .i64 (atZ z f r)) ∧ Below w.heap.size w w' := by
  by_cases h : 0 ≤ r ∧ r < 1114112
  · obtain ⟨n, rfl⟩ : ∃ n : Nat, r = n := ⟨r.toNat, by omega⟩
    have e : atZ z f (n : Int) = f n := by unfold atZ; rw [if_pos h]; rfl
    rw [e]
    exact get_in _ rfl b m z f n w ht (by omega)
  · have e : atZ z f r = z := by unfold atZ; rw [if_neg h]
    rw [e]
    exact get_out _ rfl b m z f r w ht h hr1 hr2

theorem set_anyZ (b m : Nat) (z : Int) (f : Nat → Int) (a t v : Int) (w : World) (ht : TabAt Try.prog w b m z f) :
    Calls Try.prog 12 #[.pointer (some ⟨b, 0, none⟩), .int .i32 a, .int .i32 t, .int .i64 v] w fun e w' =>
      e = .returned (.int .i64 (errOf a t)) ∧ TabAt Try.prog w' b m z (setF2 f a t v) ∧ Keep (fun j => j = m) w w' := by
  by_cases h : 0 ≤ a ∧ t ≤ 1114111 ∧ a ≤ t
  · obtain ⟨h1, h2, h3⟩ := h
    obtain ⟨A, rfl⟩ : ∃ A : Nat, a = A := ⟨a.toNat, by omega⟩
    obtain ⟨T, rfl⟩ : ∃ T : Nat, t = T := ⟨t.toNat, by omega⟩
    have e : setF2 f (A : Int) (T : Int) v = setR f A T v := by unfold setF2; rw [if_pos ⟨h1, h2, h3⟩]; rfl
    have e2 : errOf (A : Int) (T : Int) = 0 := by unfold errOf; rw [if_pos ⟨h1, h2, h3⟩]
    rw [e, e2]
    exact set_ok _ rfl b m z f A T v w ht (by omega) (by omega)
  · have e : setF2 f a t v = f := by unfold setF2; rw [if_neg h]
    have e2 : errOf a t = 11 := by unfold errOf; rw [if_neg h]
    rw [e, e2]
    refine (set_bad _ rfl b a t v w (by omega)).mono ?_
    rintro e w' ⟨rfl, rfl⟩
    exact ⟨rfl, ht, Keep.refl _ _⟩

set_option maxRecDepth 100000 in
set_option maxHeartbeats 2000000 in
theorem at_any (base rb : Nat) (z : Int) (L : List Pc) (v : Value) (r : Int) (w : World) (hR : RefAt w base rb z L v) (hL : L.length ≤ 1000000) :
    Calls Try.prog 27 #[.pointer (some ⟨rb, 0, none⟩), .int .i32 r] w fun e w' => e = .returned (.int .i64 (atZ z (refF z L) r)) ∧ w = w' := by
  have hc0 := hR.blk.cell 0
  simp at hc0
  by_cases h1 : r < 0
  · have e : atZ z (refF z L) r = z := by unfold atZ; rw [if_neg (by omega)]
    rw [e]
    go_enter Try.func27, Try.ntmps27
    go_wp2
    go_ret
    exact ⟨rfl, rfl⟩
  · by_cases h2 : 1114111 < r
    · have e : atZ z (refF z L) r = z := by unfold atZ; rw [if_neg (by omega)]
      rw [e]
      go_enter Try.func27, Try.ntmps27
      go_wp2
      go_ret
      exact ⟨rfl, rfl⟩
    · obtain ⟨n, rfl⟩ : ∃ n : Nat, r = n := ⟨r.toNat, by omega⟩
      have e : atZ z (refF z L) (n : Int) = refF z L n := by unfold atZ; rw [if_pos (by omega)]; rfl
      rw [e]
      have hG := Lib.hid (ref_get base rb z L v n w hR hL (by omega))
      clear hR
      go_enter Try.func27, Try.ntmps27
      go_wp2_with fail
      refine hG.out.mono ?_
      rintro e w1 ⟨rfl, hw1⟩
      rw [hw1]
      go_wp2
      go_ret
      exact ⟨rfl, rfl⟩

theorem Keep.grown {S : Nat → Prop} {w W W' : World} {row : Option Nat} (h : Keep S w W) (hg : W.grownBy W' row) (hr : ∀ r, row = some r → w.heap.size ≤ r) : Keep S w W' :=
  ⟨hg.os.trans h.os, hg.tape.trans h.tape, hg.output.trans h.output, Nat.le_trans h.size hg.size, fun k hk hn => (hg.block k (Nat.lt_of_lt_of_le hk h.size) (fun e => by have := hr k e.symm; omega)).trans (h.block k hk hn)⟩

/-- what the body of same's first loop knows -/
def SameI (nB : Nat) (w0 : World) (pre : List Pc) (W : World) : Prop := Boxed W nB 3 (.int .i64 (pre.length : Int)) ∧ Keep (fun j => j = nB) w0 W
theorem boxed_abides {W W' : World} {row : Option Nat} {q : Nat} {v : Value} {T : TypeId} (h : Boxed W q T v) (hg : W.grownBy W' row) (hr : ∀ r, row = some r → ∃ o : Obj, W.heap[r]? = some o ∧ o.isCells = false) : Boxed W' q T v := blk_abides (cs := #[v]) h hg hr
theorem sameI_from (nB : Nat) (w0 : World) (C : Nat) (hC : w0.heap.size ≤ C) : OwnFrom C (SameI nB w0) := by
  rintro pre W W' row ⟨h1, h2⟩ hg hr
  exact ⟨boxed_abides h1 hg (fun r e => (hr r e).2), h2.grown hg (fun r e => Nat.le_trans hC (hr r e).1)⟩
theorem ownPostG_ret {α : Type} {B : Nat} {Kp : World → World → Prop} {I : List α → World → Prop} {Ix : Code → List α → World → Prop} {xs : List α} {W W' : World} {a : Act} (h : KeepsFrom B W W' ∧ Ix .ret xs W') : ownPostG B Kp I Ix xs W .ret a W' := h
theorem pre_from (C : Nat) (l : List Pc) : OwnFrom C (fun (pre : List Pc) (_ : World) => pre = l.take pre.length) := fun _ _ _ _ h _ _ => h

set_option maxRecDepth 100000 in
set_option maxHeartbeats 8000000 in
theorem same_any (b m : Nat) (z : Int) (f : Nat → Int) (base rb : Nat) (L : List Pc) (v vs : Value) (ss : List (Int × Int × Int)) (w : World) (hT : TabAt Try.prog w b m z f) (hR : RefAt w base rb z L v) (hS : RdSp w vs ss) (hL : L.length ≤ 1000000)
    (he : ∀ r, r < 1114112 → f r = refF z L r) :
    Calls Try.prog 14 #[.pointer (some ⟨b, 0, none⟩), .pointer (some ⟨rb, 0, none⟩), vs] w fun e w' => e = .returned (.bool true) ∧ Below w.heap.size w w' := by
  have hnn := func_not_nil Try.underlying37
  have HNN := Lib.hid hnn
  obtain ⟨vsa, vsc, rfl, hl1, hl2, hl3⟩ := id hS
  have HL3 := Lib.hid hl3; clear hl3
  have HT := Lib.hid hT; clear hT
  have HR := Lib.hid hR; clear hR
  have HS := Lib.hid hS; clear hS
  have HE := Lib.hid he; clear he
  refine (callsIn_wide (n := 9)).1 ?_
  refine callsIn_of_wp_marks Try.func14 rfl trivial ?_ rfl
  simp only [Try.ntmps14, List.size_toArray, List.length_cons, List.length_nil, Nat.reduceAdd, Nat.reduceSub, Array.replicate_succ, Array.replicate_zero, List.push_toArray, List.append_toArray, List.nil_append, List.cons_append]
  gi_wp2_with fail
  obtain ⟨RB, hRB⟩ : ∃ q, w.heap.size = q := ⟨_, rfl⟩
  obtain ⟨W0, hW0⟩ : ∃ W0, w.alloc (.cells #[.bool false] 4) = W0 := ⟨_, rfl⟩
  have hB0 : Below w.heap.size w W0 := by rw [← hW0]; exact (Below.refl _ _).alloc (Nat.le_refl _) _
  have hrb0 : Boxed W0 RB 4 (.bool false) := by rw [← hW0, ← hRB]; exact Boxed.new _ _ _
  rw [hW0]
  try rw [hRB]
  have HRB := Lib.hid hRB; clear hRB
  clear hW0
  have HT0 := Lib.hid (HT.out.keep (Keep.of_below (S := fun _ => False) hB0 rfl) (fun h => h) (fun h => h))
  have HR0 := Lib.hid (HR.out.below hB0 rfl)
  refine ⟨trivial, ?_⟩
  refine (callsIn_wide.2 (all_any b m z f W0 HT0.out)).mono ?_
  rintro e w1 ⟨rfl, lA, vl, vv, hRun, hA1, hA2, hA3, hA4, hb01⟩
  have hAll : AllAt w1 W0.heap.size (W0.heap.size + 1) lA := ⟨_, vl, vv, hA1, hA2, hA3, hA4⟩
  have hlen : lA.length ≤ 1114112 := hRun.toPieces.len
  have hb1 := hB0.trans (hb01.mono hB0.size)
  have HT1 := Lib.hid (HT0.out.keep (Keep.of_below (S := fun _ => False) hb01 rfl) (fun h => h) (fun h => h))
  have HR1 := Lib.hid (HR0.out.below hb01 rfl)
  have hrb1 : Boxed w1 RB 4 (.bool false) := (hb01.block _ hrb0.lt).trans hrb0
  obtain ⟨A0, hA0⟩ : ∃ q, W0.heap.size = q := ⟨_, rfl⟩
  rw [hA0] at hAll ⊢
  have HA0 := Lib.hid hA0; clear hA0
  clear hA1 hA2 hA3 hA4
  have HALL := Lib.hid hAll; clear hAll
  have HRun := Lib.hid hRun; clear hRun
  gi_wp2_with fail
  refine ⟨trivial, ?_⟩
  refine (callsIn_wide.2 (ref_all base rb z L v w1 HR1.out hL)).mono ?_
  rintro e w2 ⟨lR, vo, rfl, hRunR, hrow, hb12⟩
  obtain rfl : lR = lA := hRunR.unique (HRun.out.congr fun r hr => (HE.out r hr).symm)
  clear hRunR
  obtain ⟨k, hk⟩ : ∃ k, lR.length = k := ⟨_, rfl⟩
  rw [hk] at hrow hlen
  obtain ⟨ad, cap, rfl, hc1, hc2, had⟩ := ownsRow_shapeN hrow
  have HROW := Lib.hid hrow; clear hrow
  have HAD := Lib.hid had; clear had
  have HK := Lib.hid hk; clear hk
  have hb2 := hb1.trans (hb12.mono hb1.size)
  have HT2 := Lib.hid (HT1.out.keep (Keep.of_below (S := fun _ => False) hb12 rfl) (fun h => h) (fun h => h))
  have HR2 := Lib.hid (HR1.out.below hb12 rfl)
  have hrb2 : Boxed w2 RB 4 (.bool false) := (hb12.block _ hrb1.lt).trans hrb1
  gi_wp2_with fail
  obtain ⟨W3, hW3⟩ : ∃ W3, (w2.alloc (.cells #[.slice ad k cap] 22)).alloc (.cells #[.int .i64 0] 3) = W3 := ⟨_, rfl⟩
  obtain ⟨wB, hwB⟩ : ∃ q, w2.heap.size = q := ⟨_, rfl⟩
  have hs3 : W3.heap.size = wB + 2 := by rw [← hW3, ← hwB]; simp
  have hb23 : Below w2.heap.size w2 W3 := by rw [← hW3]; exact ((Below.refl _ _).alloc (Nat.le_refl _) _).alloc (by simp) _
  have hwb3 : Boxed W3 wB 22 (.slice ad k cap) := by rw [← hW3, ← hwB]; exact (Boxed.new _ _ _).alloc _
  have hnb3 : Boxed W3 (wB + 1) 3 (.int .i64 0) := by rw [← hW3, ← hwB]; have := Boxed.new (w2.alloc (.cells #[.slice ad k cap] 22)) 3 (.int .i64 0); simpa using this
  rw [hW3, hwB]
  have hb3 := hb2.trans (hb23.mono hb2.size)
  have HT3 := Lib.hid (HT2.out.keep (Keep.of_below (S := fun _ => False) hb23 rfl) (fun h => h) (fun h => h))
  have HR3 := Lib.hid (HR2.out.below hb23 rfl)
  have hrb3 : Boxed W3 RB 4 (.bool false) := (hb23.block _ hrb2.lt).trans hrb2
  have hrow3 : W3.ownsRow w1.heap.size 33 3 (.slice ad k cap) k (flat cells3 lR) := HROW.out.kept (below_grown hb23) (by cases h : (Value.slice ad k cap).ownBlock <;> simp)
  have HROW3 := Lib.hid hrow3; clear hrow3
  have hb13 : Below w1.heap.size w1 W3 := hb12.trans (hb23.mono hb12.size)
  have htl := HT2.out.blk.lt
  have htm := HT2.out.ltm
  have hrl := HR2.out.blk.lt
  have hrbl := hrb2.lt
  have hvl : ∀ j, v.ownBlock = some j → j < wB := fun j e => by rw [← hwB]; exact (HR2.out.row.lt j e).2
  have hgl : ∀ j, (Value.slice ad k cap).ownBlock = some j → j < wB := fun j e => by rw [← hwB]; exact (HROW.out.lt j e).2
  rw [hwB] at htl htm hrl hrbl
  have hs12 := hb12.size
  have hk1 : lR.length = k := HK.out
  clear hW3
  refine wpIn_rangeFunc_ownH (F := Fence.wide) rfl (by omega) (gf := 30) (lb := #[.pointer (some ⟨A0, 0, none⟩), .pointer (some ⟨A0 + 1, 0, none⟩)]) rfl trivial (enters_of Try.func30 (by kernel_rfl) rfl)
    (all_stops 8 (by omega) A0 (A0 + 1) lR w1 HALL.out (by rw [hk1]; exact hlen)) (fun h k => h.trans k) (belowN_b (by rw [hs3]; omega)) hb13 (fun _ => rfl)
    (fun pre W => SameI (wB + 1) W3 pre W ∧ pre = lR.take pre.length)
    (fun _ pre _ => ¬ pre <+: lR)
    (OwnFrom.and (sameI_from _ _ _ (Nat.le_refl _)) (pre_from _ _))
    (fun _ _ _ _ _ hs _ _ => hs)
    ⟨⟨hnb3, Keep.refl _ _⟩, by simp⟩
    (fun x a' W => ∃ q, a' = { tmps := #[.pointer (some ⟨b, 0, none⟩), .pointer (some ⟨rb, 0, none⟩), .slice vsa ss.length vsc, undef, undef, undef, .pointer (some ⟨RB, 0, none⟩), (.func (.func 30) #[] #[.pointer (some ⟨A0, 0, none⟩), .pointer (some ⟨A0 + 1, 0, none⟩)]), .pointer (some ⟨wB, 0, none⟩), .pointer (some ⟨wB + 1, 0, none⟩), .pointer (some ⟨q, 0, none⟩), .int .i64 x.2.2, undef, undef, undef, undef, .pointer (some ⟨b, 0, none⟩), (.func (.func 30) #[] #[.pointer (some ⟨A0, 0, none⟩), .pointer (some ⟨A0 + 1, 0, none⟩)]), (.func (.func 30) #[] #[.pointer (some ⟨A0, 0, none⟩), .pointer (some ⟨A0 + 1, 0, none⟩)]), .bool false, .pointer (some ⟨rb, 0, none⟩), .slice ad k cap, (.func (.func 30) #[] #[.pointer (some ⟨A0, 0, none⟩), .pointer (some ⟨A0 + 1, 0, none⟩)]), .agg #[.int .i32 (x.1.val : Int), .int .i32 (x.2.1.val : Int)], .int .i64 x.2.2, undef, undef, undef, undef, undef, undef, undef, undef, undef, undef, undef, undef, undef, undef, undef, undef, undef, undef, undef, undef, undef, undef, undef, undef, undef, undef, undef, undef, undef, undef, undef, undef, undef, undef, undef, undef, undef, undef, undef, undef, undef, undef, undef, undef, undef, undef, undef, undef, undef, undef, undef, undef, undef, undef, undef, undef, undef, undef, undef, undef, undef, undef, undef, undef, undef, undef, undef, undef, undef, undef, undef, undef, undef, undef, undef, undef, undef, undef, undef, undef, undef, undef, undef, undef, undef, undef, undef, undef, undef, undef, undef, undef, undef, undef, undef, undef, undef, undef, undef, undef, undef, undef, undef, undef, undef, undef], defers := [] } ∧ Blk W q #[.int .i32 (x.1.val : Int), .int .i32 (x.2.1.val : Int)] 39)
    (fun x a' => by rintro _ W W' row ⟨q, rfl, h1⟩ hg hr; exact ⟨q, rfl, blk_abides h1 hg (fun r e => (hr r e).2)⟩) ?assign ?body ?done ?stop
  case assign =>
    intro l pre x W K hi hK
    unfold encP
    obtain ⟨⟨xa, hxa⟩, ⟨xb, hxb⟩, xv⟩ := x
    gi_wp2
    have hbn : Below W.heap.size W (W.alloc (.cells #[.int .i32 (xa : Int), .int .i32 (xb : Int)] 39)) := (Below.refl _ _).alloc (Nat.le_refl _) _
    obtain ⟨⟨hi1, hi2⟩, hi3⟩ := hi
    have h1W : w1.heap.size ≤ W.heap.size := Nat.le_trans hb13.size hi2.size
    exact hK _ _ ((below_others hbn).from _) (hbn.mono h1W) ⟨⟨hi1.alloc _, hi2.trans (Keep.of_below hbn rfl) (fun _ _ h => h)⟩, hi3⟩ ⟨W.heap.size, rfl, Blk.new _ _ _⟩
  case body =>
    rintro l pre x a' W hl0 ⟨rl, hrl0⟩ ⟨⟨hnW, hkW⟩, hpre⟩ ⟨q, rfl, hq⟩ hlenp
    dsimp only
    obtain ⟨n, hn⟩ : ∃ n, pre.length = n := ⟨_, rfl⟩
    rw [hn] at hnW hpre hlenp
    have hnk : n < k := by rw [← hk1]; exact hlenp
    obtain ⟨g, rfl⟩ : ∃ g, ad = some ⟨g, 0, none⟩ := by
      rcases HAD.out with ⟨_, _, h0⟩ | ⟨g, h, _⟩
      · omega
      · exact ⟨g, h⟩
    have hgq := hgl g rfl
    obtain ⟨y, hy⟩ : ∃ y, lR[n] = y := ⟨_, rfl⟩
    have hgd : lR.getD n y = y := by rw [List.getD_eq_getElem?_getD, List.getElem?_eq_getElem hlenp, hy]; rfl
    have hcellW : ∀ o u, W3.cell? ⟨g, o, none⟩ = some u → W.cell? ⟨g, o, none⟩ = some u := fun o u h => hkW.cell h (by show ¬ g = wB + 1; omega)
    have c0 := hcellW (n * 3) (.int .i32 (y.1.val : Int)) (by
      have := flat_at cells3_len y lR n 0 hlenp (by omega)
      rw [HROW3.out.cellAt _ (by omega), ← Nat.add_zero (n * 3), this, hgd]; rfl)
    have c1 := hcellW (n * 3 + 1) (.int .i32 (y.2.1.val : Int)) (by rw [HROW3.out.cellAt _ (by omega), flat_at cells3_len y lR n 1 hlenp (by omega), hgd]; rfl)
    have c2 := hcellW (n * 3 + 2) (.int .i64 y.2.2) (by rw [HROW3.out.cellAt _ (by omega), flat_at cells3_len y lR n 2 hlenp (by omega), hgd]; rfl)
    have hcw : W.cell? ⟨wB, 0, none⟩ = some (.slice (some ⟨g, 0, none⟩) k cap) := hkW.cell hwb3.cell (by show ¬ wB = wB + 1; omega)
    have hcn := hnW.cell
    have hfn := hnW.frozen
    have q0 := hq.cell 0
    have q1 := hq.cell 1
    simp at q0 q1
    have hrbW : Boxed W RB 4 (.bool false) := (hkW.block _ hrb3.lt (by show ¬ RB = wB + 1; omega)).trans hrb3
    have hcr := hrbW.cell
    have hfr := hrbW.frozen
    have i0 : (0 : Int) ≤ (n : Int) := by omega
    have i1 : (n : Int) < (k : Int) := by omega
    have i2 : decide (k ≤ n) = false := decide_eq_false (by omega)
    have hxy : x.1.val = y.1.val → x.2.1.val = y.2.1.val → x.2.2 = y.2.2 → x = y := fun h1 h2 h3 => Prod.ext (Fin.ext h1) (Prod.ext (Fin.ext h2) h3)
    have hnp : x ≠ y → ¬ (pre ++ [x]) <+: lR := fun hne hp => by
      obtain ⟨r, hr⟩ := hp
      have h1 : lR[n]? = some x := by rw [← hr, ← hn]; simp
      rw [List.getElem?_eq_getElem hlenp, hy] at h1
      exact hne (Option.some.inj h1).symm
    have hsz1 : w1.heap.size ≤ W.heap.size := Nat.le_trans hb13.size hkW.size
    obtain ⟨XA, hXA⟩ : ∃ X : Int, (x.1.val : Int) = X := ⟨_, rfl⟩
    obtain ⟨XB, hXB⟩ : ∃ X : Int, (x.2.1.val : Int) = X := ⟨_, rfl⟩
    obtain ⟨XV, hXV⟩ : ∃ X : Int, x.2.2 = X := ⟨_, rfl⟩
    obtain ⟨YA, hYA⟩ : ∃ X : Int, (y.1.val : Int) = X := ⟨_, rfl⟩
    obtain ⟨YB, hYB⟩ : ∃ X : Int, (y.2.1.val : Int) = X := ⟨_, rfl⟩
    obtain ⟨YV, hYV⟩ : ∃ X : Int, y.2.2 = X := ⟨_, rfl⟩
    rw [hXA] at q0
    rw [hXB] at q1
    rw [hYA] at c0
    rw [hYB] at c1
    rw [hYV] at c2
    rw [hXA, hXB, hXV]
    have hxy' : XA = YA → XB = YB → XV = YV → x = y := fun h1 h2 h3 => hxy (by omega) (by omega) (by rw [hXV, hYV, h3])
    have hne : (XA ≠ YA ∨ XB ≠ YB ∨ XV ≠ YV) → ¬ (pre ++ [x]) <+: lR := fun h => hnp fun e => by subst e; rcases h with h | h | h <;> first | omega | exact h (by rw [← hXV, ← hYV])
    have HXY := Lib.hid hxy'; clear hxy' hxy
    have HNE := Lib.hid hne; clear hne hnp
    have HNW := Lib.hid hnW; clear hnW
    have HKW := Lib.hid hkW; clear hkW
    have HPRE := Lib.hid (And.intro hn (And.intro hpre hy)); clear hn hpre hy
    have HQ := Lib.hid hq; clear hq
    clear hgd hcellW hXA hXB hXV hYA hYB hYV hrbW
    gi_upto_region 9 with fail
    by_cases e1 : XA = YA
    · have e1' : (XA != YA) = false := by rw [e1]; simp
      by_cases e2 : XB = YB
      · have e2' : (XB != YB) = false := by rw [e2]; simp
        by_cases e3 : XV = YV
        · have e3' : (XV != YV) = false := by rw [e3]; simp
          have hx := HXY.out e1 e2 e3
          clear e1 e2 e3
          refine wpIn_region_quiet_round rfl (by kernel_rfl) (by kernel_rfl) (by kernel_rfl) ?_
          repeat (gi_big_quiet_step (fail))
          refine wpQuietIn_nil ?_
          intro _ hw'
          obtain ⟨nq, hw''⟩ := hw'
          subst hw''
          gi_wp2
          obtain ⟨hn, hpre, hy⟩ := HPRE.out
          have hk5 : Keep (fun j => j = wB + 1) W (((W.drewN nq).setCell ⟨wB + 1, 0, none⟩ (.int .i64 ((n : Int) + 1)))) := (Keep.of_drewN _ W nq).trans (Keep.of_setCell _ _ _ _) (fun _ _ h => h)
          have hbx : Boxed (W.drewN nq) (wB + 1) 3 (.int .i64 (n : Int)) := HNW.out
          refine ownPostG_normal ⟨((⟨Nat.le_refl _, fun _ _ h _ => h⟩ : KeepsOthers W (W.drewN nq)).trans (KeepsOthers.setCell _ _ _)).from _, hk5.below hsz1 (fun j hj => by omega), ⟨?_, HKW.out.trans hk5 (fun _ _ h => h)⟩, ?_⟩
          · have := hbx.set (.int .i64 ((n : Int) + 1))
            have e : ((pre ++ [x]).length : Int) = (n : Int) + 1 := by simp [hn]
            rw [e]; exact this
          · have e : (pre ++ [x]).length = n + 1 := by simp [hn]
            rw [e, List.take_succ_eq_append_getElem hlenp, ← hpre, hy, hx]
        · have e3' : (XV != YV) = true := by simpa using e3
          have hE := HNE.out (.inr (.inr e3))
          clear e1 e2 e3
          refine wpIn_region_quiet_round rfl (by kernel_rfl) (by kernel_rfl) (by kernel_rfl) ?_
          repeat (gi_big_quiet_step (fail))
          refine wpQuietIn_nil ?_
          intro _ hw'
          obtain ⟨nq, hw''⟩ := hw'
          subst hw''
          gi_wp2
          exact ownPostG_ret ⟨((⟨Nat.le_refl _, fun _ _ h _ => h⟩ : KeepsOthers W (W.drewN nq)).trans (KeepsOthers.setCell _ _ _)).from _, hE⟩
      · have e2' : (XB != YB) = true := by simpa using e2
        have hE := HNE.out (.inr (.inl e2))
        clear e1 e2
        refine wpIn_region_quiet_round rfl (by kernel_rfl) (by kernel_rfl) (by kernel_rfl) ?_
        repeat (gi_big_quiet_step (fail))
        refine wpQuietIn_nil ?_
        intro _ hw'
        obtain ⟨nq, hw''⟩ := hw'
        subst hw''
        gi_wp2
        exact ownPostG_ret ⟨((⟨Nat.le_refl _, fun _ _ h _ => h⟩ : KeepsOthers W (W.drewN nq)).trans (KeepsOthers.setCell _ _ _)).from _, hE⟩
    · have e1' : (XA != YA) = true := by simpa using e1
      have hE := HNE.out (.inl e1)
      clear e1
      refine wpIn_region_quiet_round rfl (by kernel_rfl) (by kernel_rfl) (by kernel_rfl) ?_
      repeat (gi_big_quiet_step (fail))
      refine wpQuietIn_nil ?_
      intro _ hw'
      obtain ⟨nq, hw''⟩ := hw'
      subst hw''
      gi_wp2
      exact ownPostG_ret ⟨((⟨Nat.le_refl _, fun _ _ h _ => h⟩ : KeepsOthers W (W.drewN nq)).trans (KeepsOthers.setCell _ _ _)).from _, hE⟩
  case stop =>
    rintro D c pre W _ hp h _
    exact absurd hp h
  case done =>
    rintro D xs W hD hxs ⟨⟨hnW, hkW⟩, _⟩ hK
    subst hxs
    rw [hk1] at hnW
    have hbW : Below w.heap.size w W := hb3.trans (hkW.below hb3.size (fun j e => by have := hb2.size; omega))
    have hSW := HS.out.mono hbW rfl
    have hTW := HT3.out.keep hkW (by show ¬ b = wB + 1; omega) (by show ¬ m = wB + 1; omega)
    have hRW := HR3.out.keep hkW (by show ¬ rb = wB + 1; omega) (fun j e => by have := hvl j e; show ¬ j = wB + 1; omega)
    have hwbW : W.cell? ⟨wB, 0, none⟩ = some (.slice ad k cap) := hkW.cell hwb3.cell (by show ¬ wB = wB + 1; omega)
    have hrbW : Boxed W RB 4 (.bool false) := (hkW.block _ hrb3.lt (by show ¬ RB = wB + 1; omega)).trans hrb3
    have hcn := hnW.cell
    obtain ⟨vsa', vsc', hve, _, _, hl3⟩ := hSW
    simp only [Value.slice.injEq] at hve
    obtain ⟨rfl, _, rfl⟩ := hve
    have HL := Lib.hid hl3; clear hl3
    have HTW := Lib.hid hTW; clear hTW
    have HRW := Lib.hid hRW; clear hRW
    have HRBW := Lib.hid hrbW; clear hrbW
    have HBW := Lib.hid hbW; clear hbW
    have HKD := Lib.hid hK; clear hK
    have hcb : cntB z f = cntB z (refF z L) := by
      unfold cntB
      refine count_same _ _ _ fun a ha => ?_
      rw [Bool.eq_iff_iff, apartB_iff, apartB_iff]
      constructor <;> (rintro ⟨j, hj, hne⟩; refine ⟨j, hj, ?_⟩)
      · rw [HE.out _ (by omega)]; exact hne
      · rw [← HE.out _ (by omega)]; exact hne
    have HCB := Lib.hid hcb; clear hcb
    have hag : ∀ X, atZ z f X = atZ z (refF z L) X := fun X => atZ_congr HE.out X
    have HAG := Lib.hid hag; clear hag
    clear hnW hkW hnb3 hwb3 hrb3 hrb2 hrb1 hrb0 HALL HROW HROW3 HRun hgl hvl
    gi_wp2_with fail
    refine wpIn_wide.2 ?_
    go_loopw [12] (fun s12 wr => ∃ i : Nat, i ≤ ss.length ∧ s12 = .int .i64 i ∧ Below W.heap.size W wr) (fun s12 _ => ss.length - (intOf s12).toNat)
    case atStart => exact ⟨0, Nat.zero_le _, rfl, Below.refl _ _⟩
    case round =>
      obtain ⟨i, hi, rfl, hBi⟩ := hrel
      by_cases hlt : i < ss.length
      · obtain ⟨bb, o, rfl, hc⟩ : ∃ bb o, vsa = some ⟨bb, o, none⟩ ∧ ∀ j, j < ss.length → W.cell? ⟨bb, o + j * 3, none⟩ = some (.int .i32 (ss.getD j (0, 0, 0)).1) ∧ W.cell? ⟨bb, o + j * 3 + 1, none⟩ = some (.int .i32 (ss.getD j (0, 0, 0)).2.1) := by
          rcases HL.out with h | ⟨bb, o, h, hc⟩
          · rw [h] at hlt; simp at hlt
          · exact ⟨bb, o, h, fun j hj => ⟨(hc j hj).1, (hc j hj).2.1⟩⟩
        obtain ⟨c0, c1⟩ := hc i hlt
        clear hc
        obtain ⟨sa, hsa⟩ : ∃ x, (ss.getD i (0, 0, 0)).1 = x := ⟨_, rfl⟩
        obtain ⟨sb, hsb⟩ : ∃ x, (ss.getD i (0, 0, 0)).2.1 = x := ⟨_, rfl⟩
        rw [hsa] at c0
        rw [hsb] at c1
        clear hsa hsb
        have i0 : (0 : Int) ≤ (i : Int) := by omega
        have i1 : (i : Int) < (ss.length : Int) := by omega
        have HBi := Lib.hid hBi; clear hBi
        go_wp2_with fail
        obtain ⟨wi, hwi⟩ : ∃ wi, wr = wi := ⟨_, rfl⟩
        rw [hwi] at HBi
        rw [hwi]
        clear hwi
        go_loopw [13] (fun s13 wr => ∃ j : Nat, j ≤ 3 ∧ s13 = .int .i64 j ∧ Below W.heap.size W wr) (fun s13 _ => 3 - (intOf s13).toNat)
        case atStart => exact ⟨0, by omega, rfl, HBi.out⟩
        case round =>
          obtain ⟨j, hj, rfl, hBj⟩ := hrel
          by_cases hj3 : j < 3
          · have j1 : (j : Int) < 3 := by omega
            have d0 : wr.cell? ⟨bb, o + i * 3, none⟩ = some (.int .i32 sa) := (hBj.cell (p := ⟨bb, o + i * 3, none⟩) (cell_lt c0)).trans c0
            have d1 : wr.cell? ⟨bb, o + i * 3 + 1, none⟩ = some (.int .i32 sb) := (hBj.cell (p := ⟨bb, o + i * 3 + 1, none⟩) (cell_lt c1)).trans c1
            have HBj := Lib.hid hBj; clear hBj
            go_upto_region 18 with fail
            go_cut [14] from 70 to 86 (fun s14 wx => ∃ (X : Int) (nq : Nat), s14 = .int .i32 X ∧ (-2147483648 ≤ X ∧ X ≤ 2147483647) ∧ wx = wr.drewN nq)
            case first =>
              go_quiet (fail)
              go_wp2
              go_meet
              exact ⟨_, nq, rfl, wf_bounds (wrap32_wf _), rfl⟩
            case rest =>
              obtain ⟨X, nq, rfl, hX, hwc⟩ := hcut
              have e0 : wc.cell? ⟨bb, o + i * 3, none⟩ = some (.int .i32 sa) := by rw [hwc]; exact d0
              have e1 : wc.cell? ⟨bb, o + i * 3 + 1, none⟩ = some (.int .i32 sb) := by rw [hwc]; exact d1
              have hBc : Below W.heap.size W wc := by rw [hwc]; exact HBj.out.drewN _
              have HBc := Lib.hid hBc; clear hBc hwc d0 d1
              have HX := Lib.hid hX; clear hX
              obtain ⟨wy, hwy⟩ : ∃ wy, wc = wy := ⟨_, rfl⟩
              rw [hwy] at e0 e1 HBc ⊢
              clear hwy
              go_upto_region 19 with fail
              go_cut [15] from 87 to 103 (fun s15 wx => ∃ (Y : Int) (nq : Nat), s15 = .int .i32 Y ∧ (-2147483648 ≤ Y ∧ Y ≤ 2147483647) ∧ wx = wy.drewN nq)
              case first =>
                go_quiet (fail)
                go_wp2
                go_meet
                exact ⟨_, nq, rfl, wf_bounds (wrap32_wf _), rfl⟩
              case rest =>
                obtain ⟨Y, nq, rfl, hY, hwc⟩ := hcut
                have hBc2 : Below W.heap.size W wc := by rw [hwc]; exact HBc.out.drewN _
                have HY := Lib.hid hY; clear hY
                have HB2 := Lib.hid hBc2; clear hBc2 hwc e0 e1
                have HT4 := Lib.hid (HTW.out.keep (Keep.of_below (S := fun _ => False) HB2.out rfl) (fun h => h) (fun h => h))
                have HR4 := Lib.hid (HRW.out.below HB2.out rfl)
                obtain ⟨UX, hUX⟩ : ∃ u, atZ z (refF z L) X = u := ⟨_, rfl⟩
                obtain ⟨UY, hUY⟩ : ∃ u, atZ z (refF z L) Y = u := ⟨_, rfl⟩
                have HUX := Lib.hid hUX; clear hUX
                have HUY := Lib.hid hUY; clear hUY
                go_wp2_with fail
                refine (get_anyZ b m z f X wc HT4.out HX.out.1 HX.out.2).mono ?_
                rintro e w4 ⟨rfl, hb4⟩
                rw [HAG.out, HUX.out]
                have HB4 := Lib.hid (HB2.out.trans (hb4.mono HB2.out.size)); clear hb4
                have HR5 := Lib.hid (HRW.out.below HB4.out rfl)
                go_wp2_with fail
                refine (at_any base rb z L v X w4 HR5.out hL).mono ?_
                rintro e w5 ⟨rfl, hw5⟩
                rw [← hw5, HUX.out]
                clear hw5
                have HT5 := Lib.hid (HTW.out.keep (Keep.of_below (S := fun _ => False) HB4.out rfl) (fun h => h) (fun h => h))
                go_wp2_with fail
                refine (get_anyZ b m z f Y w4 HT5.out HY.out.1 HY.out.2).mono ?_
                rintro e w6 ⟨rfl, hb6⟩
                rw [HAG.out, HUY.out]
                have HB6 := Lib.hid (HB4.out.trans (hb6.mono HB4.out.size)); clear hb6
                have HR6 := Lib.hid (HRW.out.below HB6.out rfl)
                go_wp2_with fail
                refine (at_any base rb z L v Y w6 HR6.out hL).mono ?_
                rintro e w7 ⟨rfl, hw7⟩
                rw [← hw7, HUY.out]
                clear hw7
                go_wp2
                go_roundw
                case rel => exact ⟨j + 1, by omega, by go_num, HB6.out⟩
                case measure => simp [intOf]; omega
          · have j1 : ¬ (j : Int) < 3 := by omega
            go_wp2
            go_roundw
            case rel => exact ⟨i + 1, by omega, by go_num, hBj⟩
            case measure => simp [intOf]; omega
      · have i2 : ¬ (i : Int) < (ss.length : Int) := by omega
        have HBi := Lib.hid hBi; clear hBi
        have cn : wr.cell? ⟨wB + 1, 0, none⟩ = some (.int .i64 (k : Int)) := (HBi.out.cell (p := ⟨wB + 1, 0, none⟩) (cell_lt hcn)).trans hcn
        have cw : wr.cell? ⟨wB, 0, none⟩ = some (.slice ad k cap) := (HBi.out.cell (p := ⟨wB, 0, none⟩) (cell_lt hwbW)).trans hwbW
        have HT7 := Lib.hid (HTW.out.keep (Keep.of_below (S := fun _ => False) HBi.out rfl) (fun h => h) (fun h => h))
        have HR7 := Lib.hid (HRW.out.below HBi.out rfl)
        go_wp2_with fail
        refine wpIn_wide.2 ?_
        go_wp2_with fail
        refine (blocks_any _ rfl b m z f wr HT7.out).mono ?_
        rintro e w8 ⟨rfl, hw8⟩
        rw [← hw8, HCB.out]
        clear hw8
        go_wp2_with fail
        refine (ref_blocks base rb z L v wr HR7.out hL).mono ?_
        rintro e w9 ⟨rfl, hb9⟩
        have hB9 := HBi.out.trans (hb9.mono HBi.out.size)
        have hrb9 : Boxed w9 RB 4 (.bool false) := (hB9.block _ HRBW.out.lt).trans HRBW.out
        have hrc := hrb9.cell
        have hrf := hrb9.frozen
        have HRB9 := Lib.hid hrb9; clear hrb9
        have HB9 := Lib.hid hB9; clear hB9
        go_wp2
        have hrb10 := HRB9.out.set (.bool true)
        have hDW : W.heap[D]? = some (.deferred (some [])) := HKD.out
        have hDlt := (Array.getElem?_eq_some_iff.1 hDW).1
        have hDne : D ≠ RB := fun e => by rw [e, show W.heap[RB]? = _ from HRBW.out] at hDW; cases hDW
        have hD9 : (w9.setCell ⟨RB, 0, none⟩ (.bool true)).heap[D]? = some (.deferred (some [])) := (Below.heap_setCell _ _ _ _ hDne).trans ((HB9.out.block D hDlt).trans hDW)
        refine ⟨by simp, .inl ⟨_, _, rfl, run_takeDeferred hD9, ?_⟩⟩
        have hrbq : RB ≠ D := fun e => hDne e.symm
        have hrb11 : Boxed ((w9.setCell ⟨RB, 0, none⟩ (.bool true)).putObj D (.deferred none)) RB 4 (.bool true) := (World.putObj_heap_other (fun e => hrbq e)).trans hrb10
        have hRw : w.heap.size ≤ RB := by rw [HRB.out]; exact Nat.le_refl _
        refine ⟨_, results_cell1 (a := ⟨RB, 0, none⟩) rfl rfl (by simp [loadVar, Try.isAgg4, go_sem, hrb11.cell]), rfl, ?_⟩
        exact ((HBW.out.trans (HB9.out.mono HBW.out.size)).setCell (p := ⟨RB, 0, none⟩) hRw _).trans (belowK_b (w := w) (Nat.le_refl _) _ D _ _ (by have := hb3.size; omega) hD9 rfl rfl)

end Go.Proofs.Ytkpkcimghkmkfaa
