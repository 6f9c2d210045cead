/-
  Layer 6 (trie): the document's answer: Set, Get, edge.
-/
import Derived.Test.YtkpkcimghkmkfaaTrO
import Derived.Test.YtkpkcimghkmkfaaTrJ
import Derived.Test.YtkpkcimghkmkfaaLibW
import Derived.Deep.QuietTactic
import Derived.BigQuiet
namespace Go.Proofs.Ytkpkcimghkmkfaa
open Go.RowKit

def cells3 (s : Pc) : List Value := [.int .i32 (s.1.val : Int), .int .i32 (s.2.1.val : Int), .int .i64 s.2.2]
theorem cells3_len (s : Pc) : (cells3 s).length = 3 := rfl

theorem wpList_appendN {P : Program} {t e : TypeId} {z : Value} {size bytes : Nat} (E : ElemN P t e z size bytes) {w : World} {ops : Array Oper} {rest : List Oper} {o : Oper} {a : Act} {Q : Exit → Act → World → Prop} (hgd : o.guard = none) (s x : Operand)
    (ho : o.op = .call { callee := .builtin .append, args := #[s, x], argTypes := #[t, t] }) (base : Nat) (v : Value) (n : Nat) (xs : List Value) (hs : a.eval s = v) (hown : w.ownsRow base e size v n xs)
    (p : Nat) (cs : Array Value) (T : TypeId) (hp : Blk w p cs T) (hx : a.eval x = .slice (some ⟨p, 0, none⟩) 1 1) (hl : cs.toList.length = size) (h1 : ∀ u ∈ cs.toList, u.oneCell' = true) (hbytes : (n + 1) * bytes ≤ 140737488355328) (hn : n ≤ 140737488355328) (hbase : base ≤ w.heap.size)
    (h : ∀ g cap w', w'.ownsRow base e size (.slice (some ⟨g, 0, none⟩) (n + 1) cap) (n + 1) (xs ++ cs.toList) → w.grownBy w' v.ownBlock → (v.ownBlock = some g ∨ g = w.heap.size) → g < w'.heap.size → wpList P ops Q rest (a.put o.dst (.slice (some ⟨g, 0, none⟩) (n + 1) cap)) w') :
    wpList P ops Q (o :: rest) a w := by
  obtain ⟨i, hi, hz, hsz, hby⟩ := E.hi
  exact wpList_append_lies w hgd s x t ho base e i z size bytes E.ht hi hz hsz hby E.hz E.hs v n xs hs hown ⟨p, 0, none⟩ 1 1 cs.toList hx (by rw [hl, Nat.one_mul]) (World.news_of_block hp) h1 (by omega) (by unfold maxLen; omega) hbytes hbase _ rfl h

/-- a table of the document's answer -/
structure RefAt (w : World) (base rb : Nat) (z : Int) (L : List Pc) (v : Value) : Prop where
  blk : Blk w rb #[.int .i64 z, v] 29
  row : w.ownsRow base 33 3 v L.length (flat cells3 L)

theorem RefAt.keep {w w' : World} {base rb : Nat} {z : Int} {L : List Pc} {v : Value} {S : Nat → Prop} (h : RefAt w base rb z L v) (hk : Keep S w w') (hb : ¬ S rb) (hv : ∀ j, v.ownBlock = some j → ¬ S j) : RefAt w' base rb z L v := by
  refine ⟨h.blk.keep hk hb, h.row.1, ?_⟩
  rcases h.row.2 with hn | ⟨g, cap, cur, rfl, hb, hgg, rest⟩
  · exact .inl hn
  · exact .inr ⟨g, cap, cur, rfl, hb, (hk.block g (Array.getElem?_eq_some_iff.1 hgg).1 (hv g rfl)).trans hgg, rest⟩

theorem elemS : ElemN Try.prog 22 33 (.agg #[.int .i32 0, .int .i32 0, .int .i64 0]) 3 16 := ElemN.mk' Try.underlying22 rfl (by decide) (by kernel_rfl)

set_option maxRecDepth 100000 in
set_option maxHeartbeats 2000000 in
theorem ref_set (base rb : Nat) (z : Int) (L : List Pc) (v : Value) (a t x : Int) (w : World) (hR : RefAt w base rb z L v) (hb : base ≤ w.heap.size) (hL : L.length ≤ 1000000) :
    Calls Try.prog 13 #[.pointer (some ⟨rb, 0, none⟩), .int .i32 a, .int .i32 t, .int .i64 x] w fun e w' =>
      e = .returned (.int .i64 (errOf a t)) ∧ ∃ v', RefAt w' base rb z (addV L (a, t, x)) v' ∧ Keep (fun j => j = rb ∨ v.ownBlock = some j) w w' ∧ (v'.ownBlock = v.ownBlock ∨ ∃ g, v'.ownBlock = some g ∧ w.heap.size ≤ g) := by
  have hc1 := hR.blk.cell 1
  simp at hc1
  have hf1 := hR.blk.frozen 1
  by_cases h1 : a < 0
  · have he : errOf a t = 11 := by unfold errOf; rw [if_neg (by omega)]
    have hv : addV L (a, t, x) = L := addV_bad _ _ _ _ (by omega)
    rw [he, hv]
    go_enter Try.func13, Try.ntmps13
    go_wp2
    go_ret
    exact ⟨rfl, v, hR, Keep.refl _ _, .inl rfl⟩
  · by_cases h2 : 1114111 < t
    · have he : errOf a t = 11 := by unfold errOf; rw [if_neg (by omega)]
      have hv : addV L (a, t, x) = L := addV_bad _ _ _ _ (by omega)
      rw [he, hv]
      go_enter Try.func13, Try.ntmps13
      go_wp2
      go_ret
      exact ⟨rfl, v, hR, Keep.refl _ _, .inl rfl⟩
    · by_cases h3 : t < a
      · have he : errOf a t = 11 := by unfold errOf; rw [if_neg (by omega)]
        have hv : addV L (a, t, x) = L := addV_bad _ _ _ _ (by omega)
        rw [he, hv]
        go_enter Try.func13, Try.ntmps13
        go_wp2
        go_ret
        exact ⟨rfl, v, hR, Keep.refl _ _, .inl rfl⟩
      · have he : errOf a t = 0 := by unfold errOf; rw [if_pos (by omega)]
        obtain ⟨s, hs1, hs2, hs3, hv⟩ := addV_ok L a t x (by omega)
        rw [he, hv]
        obtain ⟨k, hk⟩ : ∃ k, L.length = k := ⟨_, rfl⟩
        have hrow := hR.row
        rw [hk] at hrow hL
        obtain ⟨ad, cap, rfl, hcc, hcm, had⟩ := ownsRow_shapeN hrow
        have HR := Lib.hid hR; clear hR
        have HROW := Lib.hid hrow; clear hrow
        have HAD := Lib.hid had; clear had
        have ES := Lib.hid elemS
        have hlt := HR.out.blk.lt
        go_enter Try.func13, Try.ntmps13
        obtain ⟨W1, hW1⟩ : ∃ W1, w.alloc (.cells #[.int .i32 a, .int .i32 t, .int .i64 x] 33) = W1 := ⟨_, rfl⟩
        have hbz : base ≤ W1.heap.size := by rw [← hW1]; simp; omega
        have hp1 : Blk W1 w.heap.size #[.int .i32 a, .int .i32 t, .int .i64 x] 33 := by rw [← hW1]; exact Blk.new _ _ _
        have hr1 : W1.ownsRow base 33 3 (.slice ad k cap) k (flat cells3 L) := by rw [← hW1]; exact HROW.out.alloc _
        have hb1 := HR.out.blk.grown (World.grownBy_alloc w (.cells #[.int .i32 a, .int .i32 t, .int .i64 x] 33) none) (by simp)
        rw [hW1] at hb1
        have hk1 : Keep (fun j => j = rb ∨ (Value.slice ad k cap).ownBlock = some j) w W1 := by rw [← hW1]; exact Keep.of_alloc _ _ _
        have hone : ∀ u ∈ (#[.int .i32 a, .int .i32 t, .int .i64 x] : Array Value).toList, u.oneCell' = true := by simp [Value.oneCell']
        have hby : (k + 1) * 16 ≤ 140737488355328 := by omega
        have hky : k ≤ 140737488355328 := by omega
        have hws : w.heap.size ≤ W1.heap.size := hk1.size
        have HP1 := Lib.hid hp1; clear hp1
        have HR1 := Lib.hid hr1; clear hr1
        have HB1 := Lib.hid hb1; clear hb1
        have HK1 := Lib.hid hk1; clear hk1
        have HONE := Lib.hid hone; clear hone
        go_wp2_with (at_builtin; go_loud (refine wpList_appendN ES.out rfl _ _ rfl base (.slice ad k cap) k (flat cells3 L) rfl HR1.out w.heap.size #[.int .i32 a, .int .i32 t, .int .i64 x] 33 HP1.out rfl rfl HONE.out hby hky hbz ?_; intro g cap' w2 hown hgr hat hg2; have hbw := HB1.out.grown hgr (blk_ne_row HB1.out HR1.out (by decide)); have hc2 := hbw.cell 1; simp at hc2; have hf2 := hbw.frozen 1))
        go_ret
        have ea : (a : Int) = (s.1.val : Int) := by omega
        have et : (t : Int) = (s.2.1.val : Int) := by omega
        refine ⟨rfl, .slice (some ⟨g, 0, none⟩) (k + 1) cap', ⟨?_, ?_⟩, ?_, ?_⟩
        · exact hbw.set 1 _
        · have := ownsRow_setCell_other hown (a := ⟨rb, 1, none⟩) (blk_ne_row hbw hown (by decide)).symm (.slice (some ⟨g, 0, none⟩) (k + 1) cap')
          rw [flat_snoc, List.length_append, List.length_singleton, hk]
          rw [ea, et, ← hs3] at this
          exact this
        · have k1 := HK1.out
          have k2 := (Keep.of_grown hgr).weaken (S' := fun j => j = rb ∨ (Value.slice ad k cap).ownBlock = some j) (fun _ _ h => .inr h)
          have k3 := (Keep.of_setCell w2 rb 1 (.slice (some ⟨g, 0, none⟩) (k + 1) cap')).weaken (S' := fun j => j = rb ∨ (Value.slice ad k cap).ownBlock = some j) (fun _ _ h => .inl h)
          exact (k1.trans k2 (fun _ _ h => h)).trans k3 (fun _ _ h => h)
        · rcases hat with h | h
          · exact .inl h.symm
          · exact .inr ⟨g, rfl, by rw [h]; exact hws⟩

set_option maxRecDepth 100000 in
set_option maxHeartbeats 4000000 in
theorem ref_get (base rb : Nat) (z : Int) (L : List Pc) (v : Value) (r : Nat) (w : World) (hR : RefAt w base rb z L v) (hL : L.length ≤ 1000000) (hr : r < 1114112) :
    Calls Try.prog 33 #[.pointer (some ⟨rb, 0, none⟩), .int .i32 r] w fun e w' => e = .returned (.int .i64 (refF z L r)) ∧ w' = w := by
  have hc0 := hR.blk.cell 0
  have hc1 := hR.blk.cell 1
  simp at hc0 hc1
  obtain ⟨k, hk⟩ : ∃ k, L.length = k := ⟨_, rfl⟩
  have hrow := hR.row
  rw [hk] at hrow hL
  obtain ⟨ad, cap, rfl, hcc, hcm, had⟩ := ownsRow_shapeN hrow
  have HROW := Lib.hid hrow; clear hrow
  have HAD := Lib.hid had; clear had
  have HK := Lib.hid hk; clear hk
  clear hR
  go_enter Try.func33, Try.ntmps33
  have hw0 : IntKind.i64.wrap ((k : Int) - 1) = (k : Int) - 1 := IntWalk.i64_in _ (by omega)
  go_wp2
  go_loop [5] (fun i => ∃ j : Nat, j ≤ k ∧ i = .int .i64 ((j : Int) - 1) ∧ refF z L r = refF z (L.take j) r) (fun i => (intOf i + 1).toNat)
  case atStart => exact ⟨k, Nat.le_refl _, rfl, by rw [← HK.out, List.take_length]⟩
  case round =>
    obtain ⟨j, hj, rfl, hrf⟩ := hrel
    have HRF := Lib.hid hrf; clear hrf
    cases j with
    | zero =>
      have hneg : ¬ (0 : Int) ≤ ((0 : Nat) : Int) - 1 := by omega
      go_wp2
      go_ret
      exact ⟨ret_int (by rw [HRF.out]; rfl), rfl⟩
    | succ j =>
      have hjk : j < L.length := by rw [HK.out]; omega
      obtain ⟨g, rfl⟩ : ∃ g, ad = some ⟨g, 0, none⟩ := by
        rcases HAD.out with ⟨_, _, h0⟩ | ⟨g, h, _⟩
        · omega
        · exact ⟨g, h⟩
      obtain ⟨s, hs⟩ : ∃ s, L[j] = s := ⟨_, rfl⟩
      have hgd : L.getD j s = s := by rw [List.getD_eq_getElem?_getD, List.getElem?_eq_getElem hjk, hs]; rfl
      have htk : L.take (j + 1) = L.take j ++ [s] := by rw [List.take_succ_eq_append_getElem hjk, hs]
      have c0 : w.cell? ⟨g, j * 3, none⟩ = some (.int .i32 (s.1.val : Int)) := by
        have := flat_at cells3_len s L j 0 hjk (by omega)
        rw [HROW.out.cellAt _ (by omega), ← Nat.add_zero (j * 3), this, hgd]; rfl
      have c1 : w.cell? ⟨g, j * 3 + 1, none⟩ = some (.int .i32 (s.2.1.val : Int)) := by
        rw [HROW.out.cellAt _ (by omega), flat_at cells3_len s L j 1 hjk (by omega), hgd]; rfl
      have c2 : w.cell? ⟨g, j * 3 + 2, none⟩ = some (.int .i64 s.2.2) := by
        rw [HROW.out.cellAt _ (by omega), flat_at cells3_len s L j 2 hjk (by omega), hgd]; rfl
      have hsub : ((j + 1 : Nat) : Int) - 1 = (j : Int) := by omega
      rw [hsub]
      have i0 : (0 : Int) ≤ (j : Int) := by omega
      have i1 : (j : Int) < (k : Int) := by omega
      have hw1 : IntKind.i64.wrap ((j : Int) - 1) = (j : Int) - 1 := IntWalk.i64_in _ (by omega)
      have HTK := Lib.hid htk; clear htk
      clear hgd hsub
      obtain ⟨sa, hsa⟩ : ∃ x, s.1.val = x := ⟨_, rfl⟩
      obtain ⟨sb, hsb⟩ : ∃ x, s.2.1.val = x := ⟨_, rfl⟩
      rw [hsa] at c0
      rw [hsb] at c1
      have HSA := Lib.hid hsa; clear hsa
      have HSB := Lib.hid hsb; clear hsb
      have HSS := Lib.hid hs; clear hs
      by_cases e1 : sa ≤ r
      · have e1' : decide (sa ≤ r) = true := decide_eq_true e1
        by_cases e2 : r ≤ sb
        · have e2' : decide (r ≤ sb) = true := decide_eq_true e2
          go_wp2
          go_ret
          exact ⟨ret_int (by rw [HRF.out, HTK.out, refF_in (by rw [HSA.out]; exact e1) (by rw [HSB.out]; exact e2)]), rfl⟩
        · have e2' : decide (r ≤ sb) = false := decide_eq_false e2
          go_wp2
          go_round
          case rel => exact ⟨j, by omega, rfl, by rw [HRF.out, HTK.out, refF_out (by rw [HSB.out]; omega)]⟩
          case measure => simp [intOf]
      · have e1' : decide (sa ≤ r) = false := decide_eq_false e1
        go_wp2
        go_round
        case rel => exact ⟨j, by omega, rfl, by rw [HRF.out, HTK.out, refF_out (by rw [HSA.out]; omega)]⟩
        case measure => simp [intOf]

end Go.Proofs.Ytkpkcimghkmkfaa
