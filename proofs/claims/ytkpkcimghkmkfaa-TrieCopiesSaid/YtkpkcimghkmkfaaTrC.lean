/-
  Layer 6 (trie): New, Set, at whatever program that is this one.
-/
import Derived.Test.YtkpkcimghkmkfaaTrB
import Derived.Deep.RegionHeld3
import Derived.Deep.CutBlock
import Derived.Deep.DeepCutAuto
namespace Go.Proofs.Ytkpkcimghkmkfaa
open Go.RowKit

structure TabAt (P : Program) (w : World) (b m : Nat) (z : Int) (f : Nat → Int) : Prop where
  blk : Blk w b #[.int .i64 z, .map (some m)] 58
  ne : b ≠ m
  map : ∃ D : DataW Unit, w.ownsMap P 21 arrR m (Maps.size D) D ∧ MapsTo z f D

set_option maxRecDepth 100000 in
set_option maxHeartbeats 1000000 in
theorem new_any (P : Program) (hP : Is P) (z : Int) (w : World) :
    Calls P 9 #[.int .i64 z] w fun e w' => ∃ b m, e = .returned (.pointer (some ⟨b, 0, none⟩)) ∧ w.heap.size ≤ b ∧ w.heap.size ≤ m ∧ TabAt P w' b m z (fun _ => z) ∧ Below w.heap.size w w' := by
  subst hP
  have hmm := @run_makeMap Try.prog
  go_enter Try.func9, Try.ntmps9
  go_wp2
  go_ret
  refine ⟨w.heap.size + 1, w.heap.size, by first | rfl | simp, by omega, Nat.le_refl _, ⟨?_, by omega, .map [], ?_, MapsTo.start z⟩, ?_⟩
  · have := Blk.new (w.alloc (.map #[] 0)) #[.int .i64 z, .map (some w.heap.size)] 58
    simpa using this
  · exact (World.ownsMap_made w _ _ _).alloc _
  · exact ((Below.refl _ _).alloc (Nat.le_refl _) _).alloc (by simp) _

theorem TabAt.keep {P : Program} {w w' : World} {b m : Nat} {z : Int} {f : Nat → Int} {S : Nat → Prop} (h : TabAt P w b m z f) (hk : Keep S w w') (hb : ¬ S b) (hm : ¬ S m) : TabAt P w' b m z f := by
  obtain ⟨D, ho, hM⟩ := h.map
  have hlt := ho.lt
  obtain ⟨es, clock, h1, h2, h3, h4⟩ := ho
  exact ⟨h.blk.keep hk hb, h.ne, D, ⟨es, clock, (hk.block m hlt hm).trans h1, h2, h3, h4⟩, hM⟩

theorem TabAt.drew {P : Program} {w : World} {b m : Nat} {z : Int} {f : Nat → Int} (h : TabAt P w b m z f) : TabAt P w.drew b m z f := ⟨h.blk, h.ne, h.map⟩

theorem TabAt.ltm {P : Program} {w : World} {b m : Nat} {z : Int} {f : Nat → Int} (h : TabAt P w b m z f) : m < w.heap.size := by
  obtain ⟨D, ho, _⟩ := h.map
  exact ho.lt

theorem TabAt.congr {P : Program} {w : World} {b m : Nat} {z : Int} {f f' : Nat → Int} (h : TabAt P w b m z f) (he : ∀ r, r < 1114112 → f' r = f r) : TabAt P w b m z f' := by
  obtain ⟨D, ho, hM⟩ := h.map
  exact ⟨h.blk, h.ne, D, ho, hM.congr he⟩

theorem keyed (P : Program) (hP : Is P) : Maps.Keyed P 21 := by rw [hP]; exact Maps.int_keyed Try.underlying21
theorem key_of (P : Program) (hP : Is P) {x : Nat} (hx : x < 4352) : keyOf P 21 (.int .i32 x) = some (bkey x) := by
  rw [hP]; exact Maps.keyOf_int_mk Try.underlying21 (bkey_wf hx)
theorem key_ofI (P : Program) (hP : Is P) {x : Int} (hx : (Lit.int .i32 x).wf = true) : keyOf P 21 (.int .i32 x) = some (.int .i32 x) := by
  rw [hP]; exact Maps.keyOf_int_mk Try.underlying21 hx
theorem map_ty (P : Program) (hP : Is P) : P.underlying 56 = some (.map 21 60) := by rw [hP]; exact Try.underlying56
theorem zero_ty (P : Program) (hP : Is P) (w : World) : (zeroValue 60).run P w = .ok (.agg (arrI fun _ => 0)) w := by rw [hP]; exact arr_zero w

theorem TabAt.look {P : Program} (hP : Is P) {w : World} {b m : Nat} {z : Int} {f : Nat → Int} (h : TabAt P w b m z f) {x : Nat} (hx : x < 4352) :
    ∃ dv is, (Instr.lookup 56 (.map (some m)) (.int .i32 x) true).run P w = .ok (.tuple #[.agg (arrI dv), .bool is]) w ∧
      ((is = true ∧ ∀ j, j < 256 → dv j = f (x * 256 + j)) ∨ (is = false ∧ ∀ j, j < 256 → f (x * 256 + j) = z)) := by
  obtain ⟨D, ho, hM⟩ := h.map
  obtain ⟨v, ps, hrun, hv⟩ := ho.look_ok (keyed P hP) (map_ty P hP) (zero_ty P hP w) (arrR_mk _) (key_of P hP hx)
  obtain ⟨dv, rfl, hd⟩ := arrR_inv hv
  refine ⟨dv, Maps.has D (bkey x), hrun, ?_⟩
  cases e : Maps.has D (bkey x) with
  | true =>
    left
    refine ⟨rfl, ?_⟩
    rw [(hM.present e).2.2] at hd
    simp only [Prod.mk.injEq, and_true] at hd
    exact fun j hj => (datA_inj hd.1 j hj).symm
  | false => exact .inr ⟨rfl, hM.absent hx e⟩

/-- at a key that is no block of a number: nothing -/
theorem TabAt.lookNone {P : Program} (hP : Is P) {w : World} {b m : Nat} {z : Int} {f : Nat → Int} (h : TabAt P w b m z f) {x : Int} (hx : (Lit.int .i32 x).wf = true) (hn : ¬ (0 ≤ x ∧ x < 4352)) :
    ∃ dv, (Instr.lookup 56 (.map (some m)) (.int .i32 x) true).run P w = .ok (.tuple #[.agg (arrI dv), .bool false]) w := by
  obtain ⟨D, ho, hM⟩ := h.map
  obtain ⟨v, ps, hrun, hv⟩ := ho.look_ok (keyed P hP) (map_ty P hP) (zero_ty P hP w) (arrR_mk _) (key_ofI P hP hx)
  obtain ⟨dv, rfl, hd⟩ := arrR_inv hv
  have e : Maps.has D (.int .i32 x) = false := by
    cases e : Maps.has D (.int .i32 x) with
    | false => rfl
    | true =>
      obtain ⟨a, h1, h2, _⟩ := hM.keys _ e
      unfold bkey at h1
      simp only [Lit.int.injEq, true_and] at h1
      omega
  rw [e] at hrun
  exact ⟨dv, hrun⟩

theorem Keep.of_turned {w w' : World} {b : Nat} (h : w.mapTurned w' b) : Keep (fun j => j = b) w w' :=
  (Keep.of_grown h.grown).weaken (fun j _ hj => by cases hj; rfl)

theorem TabAt.del {P : Program} (hP : Is P) {w : World} {b m : Nat} {z : Int} {f : Nat → Int} (h : TabAt P w b m z f) {x : Nat} (hx : x < 4352) (f' : Nat → Int) (he : ∀ r, r / 256 ≠ x → f' r = f r) (hn : ∀ j, j < 256 → f' (x * 256 + j) = z) (ty : TypeId) :
    ∃ w', (Builtin.delete_ #[56, 21] ty #[.map (some m), .int .i32 x]).run P w = .ok (.tuple #[]) w' ∧ TabAt P w' b m z f' ∧ Keep (fun j => j = m) w w' := by
  obtain ⟨D, ho, hM⟩ := h.map
  obtain ⟨w', hrun, ho', ht⟩ := ho.drop (keyed P hP) (map_ty P hP) (key_of P hP hx) ty
  have hM' := hM.del hx he (apartB_false.2 hn)
  have hk := Keep.of_turned ht
  refine ⟨w', hrun, ⟨h.blk.keep hk h.ne, h.ne, _, ?_, hM'⟩, hk⟩
  obtain ⟨es, clock, h1, h2, h3, h4⟩ := ho'
  refine ⟨es, clock, h1, h2, ?_, h4⟩
  rw [h4]
  simp [Maps.size, length_sorted]

theorem TabAt.put {P : Program} (hP : Is P) {w : World} {b m : Nat} {z : Int} {f : Nat → Int} (h : TabAt P w b m z f) {x : Nat} (hx : x < 4352) (f' G : Nat → Int) (he : ∀ r, r / 256 ≠ x → f' r = f r) (hG : ∀ j, j < 256 → G j = f' (x * 256 + j))
    (hn : apartB z f' x = true) :
    ∃ w', (Instr.mapUpdate 56 (.map (some m)) (.int .i32 x) (.agg (arrI G))).run P w = .ok () w' ∧ TabAt P w' b m z f' ∧ Keep (fun j => j = m) w w' := by
  obtain ⟨D, ho, hM⟩ := h.map
  have hsz : Maps.size D ≤ 4352 := by
    rw [hM.size]
    unfold cntB
    exact Nat.le_trans (List.length_filter_le _ _) (by simp)
  obtain ⟨w', hrun, ho', ht⟩ := ho.store (keyed P hP) (map_ty P hP) (by unfold maxLen; omega) (key_of P hP hx) (arrR_mk G)
  rw [datA_congr hG] at ho'
  have hM' := hM.put hx he hn
  have hk := Keep.of_turned ht
  refine ⟨w', hrun, ⟨h.blk.keep hk h.ne, h.ne, _, ?_, hM'⟩, hk⟩
  obtain ⟨es, clock, h1, h2, h3, h4⟩ := ho'
  refine ⟨es, clock, h1, h2, ?_, h4⟩
  rw [h4]
  simp [Maps.size, length_sorted]

theorem TabAt.len {P : Program} (hP : Is P) {w : World} {b m : Nat} {z : Int} {f : Nat → Int} (h : TabAt P w b m z f) (ty : TypeId) :
    (Builtin.len_ #[56] ty #[.map (some m)]).run P w = .ok (.int .i64 (cntB z f)) w := by
  obtain ⟨D, ho, hM⟩ := h.map
  rw [ho.len (map_ty P hP) ty, hM.size]

theorem wpList_tab_del {P : Program} (hP : Is P) {w : World} {ops : Array Oper} {rest : List Oper} {o : Oper} {ac : Act} {Q : Exit → Act → World → Prop} (hgd : o.guard = none) (mo xo : Operand)
    (hop : o.op = Op.call { callee := Callee.builtin Builtin.delete, args := #[mo, xo], argTypes := #[56, 21] }) {b m : Nat} {z : Int} {f : Nat → Int} (h : TabAt P w b m z f) {x : Nat} (hx : x < 4352) (f' : Nat → Int)
    (hm : ac.eval mo = .map (some m)) (hxo : ac.eval xo = .int .i32 x) (he : ∀ r, r / 256 ≠ x → f' r = f r) (hn : ∀ j, j < 256 → f' (x * 256 + j) = z)
    (hK : ∀ w', TabAt P w' b m z f' → Keep (fun j => j = m) w w' → wpList P ops Q rest (ac.put o.dst (.tuple #[])) w') : wpList P ops Q (o :: rest) ac w := by
  refine wpList_plain hgd fun K' hK' => ?_
  obtain ⟨w', hrun, r1, r2⟩ := h.del hP hx f' he hn o.type
  unfold Oper.wp
  simp [execOp, hop, resolve, invoke, builtin, hm, hxo, hrun, Result.andThen]
  exact hK' _ _ (hK w' r1 r2)

end Go.Proofs.Ytkpkcimghkmkfaa
