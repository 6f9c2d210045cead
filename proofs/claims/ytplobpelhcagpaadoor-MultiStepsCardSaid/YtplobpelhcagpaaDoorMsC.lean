/-
  Multi: cover's New (that it answers; that keys which may be are taken).
-/
import Derived.Test.YtplobpelhcagpaaDoorMsB
import Derived.Test.YtplobpelhcagpaaDoorLibE
import Derived.Maps.GroupsBeside
namespace Go.Proofs.YtplobpelhcagpaaDoor
open Go.RowKit Go.Shelf Pl14

def CoverOk (keys : List (List Int)) : Prop := (∀ k ∈ keys, wrongE k = 0) ∧ keys.Pairwise (fun a b => a ≠ b)
theorem CoverOk.at {keys : List (List Int)} (h : CoverOk keys) {i : Nat} (hi : i < keys.length) : wrongE (keys.getD i []) = 0 := by
  refine h.1 _ ?_
  rw [List.getD_eq_getElem?_getD, List.getElem?_eq_getElem hi]; exact List.getElem_mem hi
theorem CoverOk.ne {keys : List (List Int)} (h : CoverOk keys) {i j : Nat} (hj : j < i) (hi : i < keys.length) : keys.getD j [] ≠ keys.getD i [] := by
  have := List.pairwise_iff_getElem.1 h.2 j i (by omega) hi hj
  simpa [List.getD_eq_getElem?_getD, hi, show j < keys.length by omega] using this

theorem getD_memK {keys : List (List Int)} {i : Nat} (h : i < keys.length) : keys.getD i [] ∈ keys := by rw [List.getD_eq_getElem?_getD, List.getElem?_eq_getElem h]; exact List.getElem_mem h
def txtB (k : List Int) : List UInt8 := (strOfNums (plainI k)).data.toList
theorem txtB_inj {k k' : List Int} (h1 : ∀ x ∈ k, -2147483648 ≤ x ∧ x ≤ 2147483647) (h2 : ∀ x ∈ k', -2147483648 ≤ x ∧ x ≤ 2147483647) (h : txtB k = txtB k') : k = k' := by
  refine plainI_inj h1 h2 (strOfNums_inj (plainI_byte k) (plainI_byte k') ?_)
  have e : (strOfNums (plainI k)).data = (strOfNums (plainI k')).data := Array.toList_inj.1 h
  cases hx : strOfNums (plainI k); cases hy : strOfNums (plainI k')
  rw [hx, hy] at e
  simpa using e

/-- what was seen: the texts of the first i keys -/
def SeenTo (D : DataW Unit) (keys : List (List Int)) (i : Nat) : Prop := ∀ s : List UInt8, D.atKey (.string s) (.lit (.bool false)) = .lit (.bool true) → ∃ j, j < i ∧ s = txtB (keys.getD j [])
theorem SeenTo.start (keys : List (List Int)) : SeenTo (.map []) keys 0 := fun s h => by simp [DataW.atKey] at h
theorem SeenTo.step {D : DataW Unit} {keys : List (List Int)} {i : Nat} (h : SeenTo D keys i) : SeenTo (D.put (.string (txtB (keys.getD i []))) (.lit (.bool true))) keys (i + 1) := fun s hs => by
  by_cases e : s = txtB (keys.getD i [])
  · exact ⟨i, by omega, e⟩
  · rw [Maps.atKey_put_other (fun e' => e (by simpa using e'))] at hs
    obtain ⟨j, h1, h2⟩ := h s hs
    exact ⟨j, by omega, h2⟩

theorem below_grown {w w' : World} (hb : Below w.heap.size w w') : w.grownBy w' none := ⟨hb.os, hb.tape, hb.output, hb.size, fun k hk _ => hb.block k hk⟩
/-- what New holds in a round of its loop -/
structure NewI (w : World) (N : Nat) (T : TypeId) (x kv : Value) (ik : Nat) (vs : List Value) (ig : Nat) (D1 : DataW Unit) (nw : Nat) (Dw : DataW Unit) (ns : Nat) (Ds : DataW Unit) (wr : World) : Prop where
  blk : Blk wr (N + 2) #[.iface T x, kv, .map (some N), .map (some (N + 1))] 137
  row : wr.ownsRow (N + 4) 75 1 kv ik vs
  grp : wr.ownsGroups Tryd.prog 21 (N + 4) 3 .i64 N ig D1
  wm : wr.ownsMap Tryd.prog 21 (plainElem Tryd.prog 4) (N + 1) nw Dw
  sm : wr.ownsMap Tryd.prog 9 (plainElem Tryd.prog 4) (N + 3) ns Ds
  bel : Below N w wr
  big : N + 4 ≤ wr.heap.size

section
variable {w wr w' : World} {N : Nat} {T : TypeId} {x kv kv' : Value} {ik : Nat} {vs vs' : List Value} {ig ig' : Nat} {D1 D1' : DataW Unit} {nw nw' : Nat} {Dw Dw' : DataW Unit} {ns ns' : Nat} {Ds Ds' : DataW Unit}

theorem NewI.grown {row : Option Nat} (h : NewI w N T x kv ik vs ig D1 nw Dw ns Ds wr) (hg : wr.grownBy w' row) (hN : N ≤ wr.heap.size) (hr : ∀ j, row = some j → N + 4 ≤ j ∧ kv.ownBlock ≠ some j)
    (hgr : ∀ es clock, wr.heap[N]? = some (.map es clock) → ∀ y ∈ es.toList, y.val.ownBlock = none ∨ y.val.ownBlock ≠ row) : NewI w N T x kv ik vs ig D1 nw Dw ns Ds w' where
  blk := h.blk.grown hg (fun e => by have := hr _ e.symm; omega)
  row := h.row.kept hg (by
    cases row with
    | none => cases kv.ownBlock <;> simp
    | some j => exact .inr (hr j rfl).2)
  grp := h.grp.kept hg (fun e => by have := hr _ e.symm; omega) hgr
  wm := h.wm.kept hg (fun e => by have := hr _ e.symm; omega)
  sm := h.sm.kept hg (fun e => by have := hr _ e.symm; omega)
  bel := h.bel.grown hg hN (fun j e => by have := (hr j e).1; omega)
  big := Nat.le_trans h.big hg.size
theorem NewI.below (h : NewI w N T x kv ik vs ig D1 nw Dw ns Ds wr) (hb : Below wr.heap.size wr w') (hN : N ≤ wr.heap.size) : NewI w N T x kv ik vs ig D1 nw Dw ns Ds w' :=
  h.grown (below_grown hb) hN (fun j e => by cases e) (fun es clock _ y _ => by cases y.val.ownBlock <;> simp)
theorem NewI.drew (h : NewI w N T x kv ik vs ig D1 nw Dw ns Ds wr) : NewI w N T x kv ik vs ig D1 nw Dw ns Ds wr.drew := ⟨h.blk, h.row, h.grp, h.wm, h.sm, h.bel.drew, h.big⟩
theorem NewI.own (h : NewI w N T x kv ik vs ig D1 nw Dw ns Ds wr) : ∀ j, kv.ownBlock = some j → N + 4 ≤ j := fun j e => (World.ownsRow.lt h.row j e).1
theorem NewI.seenPut (h : NewI w N T x kv ik vs ig D1 nw Dw ns Ds wr) (hg : wr.grownBy w' (some (N + 3))) (hm : w'.ownsMap Tryd.prog 9 (plainElem Tryd.prog 4) (N + 3) ns' Ds') : NewI w N T x kv ik vs ig D1 nw Dw ns' Ds' w' where
  blk := h.blk.grown hg (by simp)
  row := h.row.kept hg (.inr fun e => by have := h.own _ e; omega)
  grp := h.grp.kept hg (by simp) (h.grp.rowsAbove fun j e => by cases e; omega)
  wm := h.wm.kept hg (by simp)
  sm := hm
  bel := h.bel.grown hg (by have := h.big; omega) (fun j e => by cases e; omega)
  big := Nat.le_trans h.big hg.size
theorem NewI.withinPut (h : NewI w N T x kv ik vs ig D1 nw Dw ns Ds wr) (hg : wr.grownBy w' (some (N + 1))) (hm : w'.ownsMap Tryd.prog 21 (plainElem Tryd.prog 4) (N + 1) nw' Dw') : NewI w N T x kv ik vs ig D1 nw' Dw' ns Ds w' where
  blk := h.blk.grown hg (by simp)
  row := h.row.kept hg (.inr fun e => by have := h.own _ e; omega)
  grp := h.grp.kept hg (by simp) (h.grp.rowsAbove fun j e => by cases e; omega)
  wm := hm
  sm := h.sm.kept hg (by simp)
  bel := h.bel.grown hg (by have := h.big; omega) (fun j e => by cases e; omega)
  big := Nat.le_trans h.big hg.size
theorem groups_off_row {B e sz n : Nat} {v : Value} {xs : List Value} (h : wr.ownsGroups Tryd.prog 21 (N + 4) 3 .i64 N ig D1) (hr : wr.ownsRow B e sz v n xs) (he : 3 ≠ e) :
    ∀ es clock, wr.heap[N]? = some (.map es clock) → ∀ y ∈ es.toList, y.val.ownBlock = none ∨ y.val.ownBlock ≠ v.ownBlock := fun es clock hm y hy => by
  obtain ⟨es', clock', hm', F, _⟩ := h
  rw [hm'] at hm
  obtain ⟨rfl, rfl⟩ : es' = es ∧ clock' = clock := by simpa using hm
  obtain ⟨y', hy'⟩ := F.reads y hy
  obtain ⟨z, hz, _⟩ := WideElems.rd_val hy'
  obtain ⟨zs, ho, _⟩ := rowElem_inv hz
  exact rows_ne ho.1 hr he
theorem grown_setCell (w : World) (b i : Nat) (v : Value) : w.grownBy (w.setCell ⟨b, i, none⟩ v) (some b) := ⟨rfl, rfl, rfl, by simp [World.setCell], fun k hk hn => Below.heap_setCell _ _ _ _ (fun e => hn (by rw [e]))⟩
theorem NewI.keysPut (h : NewI w N T x kv ik vs ig D1 nw Dw ns Ds wr) (hg : wr.grownBy w' kv.ownBlock) (ho : w'.ownsRow (N + 4) 75 1 kv' (ik + 1) vs') : NewI w N T x kv' (ik + 1) vs' ig D1 nw Dw ns Ds (w'.setCell ⟨N + 2, 1, none⟩ kv') := by
  have hb1 := h.blk.grown hg (blk_ne_row h.blk h.row (by decide))
  have hs := grown_setCell w' (N + 2) 1 kv'
  have ho' : ∀ j, kv'.ownBlock = some j → N + 4 ≤ j := fun j e => (World.ownsRow.lt ho j e).1
  have hg1 := h.grp.kept hg (fun e => by have := h.own _ e.symm; omega) (groups_off_row h.grp h.row (by decide))
  exact {
    blk := by simpa using hb1.set 1 kv'
    row := ho.kept hs (.inr fun e => by have := ho' _ e; omega)
    grp := hg1.kept hs (by simp) (hg1.rowsAbove fun j e => by cases e; omega)
    wm := (h.wm.kept hg (fun e => by have := h.own _ e.symm; omega)).kept hs (by simp)
    sm := (h.sm.kept hg (fun e => by have := h.own _ e.symm; omega)).kept hs (by simp)
    bel := (h.bel.grown hg (by have := h.big; omega) (fun j e => by have := h.own j e; omega)).grown hs (by have := h.big; have := hg.size; omega) (fun j e => by cases e; omega)
    big := Nat.le_trans h.big (Nat.le_trans hg.size hs.size) }
theorem NewI.grpPut {w1 : World} {v : Value} {zs : List Int} (h : NewI w N T x kv ik vs ig D1 nw Dw ns Ds wr) (hv : wr.ownsInts (N + 4) 3 .i64 v zs) (hg : wr.grownBy w1 v.ownBlock) (hg2 : w1.grownBy w' (some N))
    (hm : w'.ownsGroups Tryd.prog 21 (N + 4) 3 .i64 N ig' D1') : NewI w N T x kv ik vs ig' D1' nw Dw ns Ds w' := by
  have hvo : ∀ j, v.ownBlock = some j → N + 4 ≤ j := fun j e => (hv.1.lt j e).1
  exact {
    blk := (h.blk.grown hg (fun e => by have := hvo _ e.symm; omega)).grown hg2 (by simp)
    row := (h.row.kept hg (rows_ne h.row hv.1 (by decide))).kept hg2 (.inr fun e => by have := h.own _ e; omega)
    grp := hm
    wm := (h.wm.kept hg (fun e => by have := hvo _ e.symm; omega)).kept hg2 (by simp)
    sm := (h.sm.kept hg (fun e => by have := hvo _ e.symm; omega)).kept hg2 (by simp)
    bel := (h.bel.grown hg (by have := h.big; omega) (fun j e => by have := hvo j e; omega)).grown hg2 (by have := h.big; have := hg.size; omega) (fun j e => by cases e; omega)
    big := Nat.le_trans h.big (Nat.le_trans hg.size hg2.size) }
end

set_option maxRecDepth 100000 in
set_option maxHeartbeats 8000000 in
theorem coverNew_any (T : TypeId) (x : Value) (f : FuncId) (x' : Value) (vl : Value) (keys : List (List Int)) (w : World) (hc : ClsAt w T x f x') (hR : RdRows w vl keys) (hk : keys.length ≤ 4096) (hsz : ∀ k ∈ keys, k.length ≤ 1000000) (hi32 : ∀ k ∈ keys, ∀ x ∈ k, -2147483648 ≤ x ∧ x ≤ 2147483647) :
    Calls Tryd.prog 46 #[.iface T x, vl] w fun e w' => ∃ p er, e = .returned (.tuple #[p, .int .i64 er]) ∧ ((er = 0 ∧ ∃ b, p = .pointer (some ⟨b, 0, none⟩)) ∨ (er ≠ 0 ∧ p = .pointer none ∧ ¬ CoverOk keys)) ∧ Below w.heap.size w w' := by
  obtain ⟨a, cap, rfl, hcap1, hcap2⟩ := hR.shape
  have HR := Lib.hid hR; clear hR
  have HC := Lib.hid hc; clear hc
  have HSZ := Lib.hid hsz; clear hsz
  have HI := Lib.hid hi32; clear hi32
  have hk' : ¬ (4096 : Int) < (keys.length : Int) := by omega
  have hmm := @run_makeMap Tryd.prog
  go_enter Tryd.func46, Tryd.ntmps46
  go_wp2_with fail
  obtain ⟨N, hN⟩ : ∃ q, w.heap.size = q := ⟨_, rfl⟩
  obtain ⟨W4, hW4⟩ : ∃ W4, ((((w.alloc (.map #[] 0)).alloc (.map #[] 0)).alloc (.cells #[.iface T x, .slice none 0 0, .map (some N), .map (some (N + 1))] 137)).alloc (.map #[] 0)) = W4 := ⟨_, rfl⟩
  have hI0 : NewI w N T x (.slice none 0 0) 0 [] 0 (.map []) 0 (.map []) 0 (.map []) W4 := by
    have hm : ∀ w : World, (w.alloc (.map #[] 0)).heap[w.heap.size]? = some (.map #[] 0) := fun w => World.alloc_heap_new w _
    have s1 : (w.alloc (.map #[] 0)).heap.size = N + 1 := by rw [← hN]; simp
    have s2 : ((w.alloc (.map #[] 0)).alloc (.map #[] 0)).heap.size = N + 2 := by rw [← hN]; simp
    have s3 : (((w.alloc (.map #[] 0)).alloc (.map #[] 0)).alloc (.cells #[.iface T x, .slice none 0 0, .map (some N), .map (some (N + 1))] 137)).heap.size = N + 3 := by rw [← hN]; simp
    have hbl : Blk (((w.alloc (.map #[] 0)).alloc (.map #[] 0)).alloc (.cells #[.iface T x, .slice none 0 0, .map (some N), .map (some (N + 1))] 137)) (N + 2) #[.iface T x, .slice none 0 0, .map (some N), .map (some (N + 1))] 137 := by
      have := Blk.new ((w.alloc (.map #[] 0)).alloc (.map #[] 0)) #[.iface T x, .slice none 0 0, .map (some N), .map (some (N + 1))] 137
      rw [s2] at this; exact this
    rw [← hW4]
    refine ⟨hbl.grown (World.grownBy_alloc _ _ none) (by simp), World.ownsRow_nil _ _ _ _, ?_, ?_, ?_, ?_, by simp; omega⟩
    · refine ⟨#[], 0, ?_, ⟨by simp, MapKept.stamped_empty 0, by simp⟩, Nat.le_refl _, rfl, by omega, by simp, by simp⟩
      have e1 := hm w
      rw [hN] at e1
      have e2 := (Below.heap_alloc (w.alloc (.map #[] 0)) (.map #[] 0) N (by omega)).trans e1
      have e3 := (Below.heap_alloc ((w.alloc (.map #[] 0)).alloc (.map #[] 0)) (.cells #[.iface T x, .slice none 0 0, .map (some N), .map (some (N + 1))] 137) N (by omega)).trans e2
      exact (Below.heap_alloc _ (.map #[] 0) N (by omega)).trans e3
    · have := World.ownsMap_made (w.alloc (.map #[] 0)) Tryd.prog 21 (plainElem (H := Unit) Tryd.prog 4)
      rw [s1] at this
      exact (this.alloc _).alloc _
    · have := World.ownsMap_made (((w.alloc (.map #[] 0)).alloc (.map #[] 0)).alloc (.cells #[.iface T x, .slice none 0 0, .map (some N), .map (some (N + 1))] 137)) Tryd.prog 9 (plainElem (H := Unit) Tryd.prog 4)
      rw [s3] at this
      exact this
    · rw [← hN]
      exact ((((Below.refl _ _).alloc (Nat.le_refl _) _).alloc (by simp) _).alloc (by simp; omega) _).alloc (by simp; omega) _
  rw [hN]
  rw [hW4]
  have e2 : N + 1 + 1 = N + 2 := rfl
  have e3 : N + 1 + 1 + 1 = N + 3 := rfl
  rw [e3, e2]
  clear hW4 e2 e3
  have HI0 := Lib.hid hI0; clear hI0
  go_loopw [29] (fun s29 wr => ∃ (i : Nat) (kv : Value) (vs : List Value) (D1 : DataW Unit) (nw : Nat) (Dw Ds : DataW Unit), i ≤ keys.length ∧ s29 = .int .i64 i ∧ NewI w N T x kv i vs i D1 nw Dw i Ds wr ∧ nw ≤ 1000000 * i ∧ SeenTo Ds keys i) (fun s29 _ => keys.length - (intOf s29).toNat)
  case atStart => exact ⟨0, _, [], _, 0, _, _, Nat.zero_le _, rfl, HI0.out, by omega, SeenTo.start _⟩
  case round =>
    obtain ⟨i, kv, vs, D1, nw, Dw, Ds, hi, rfl, hI, hnw, hst⟩ := hrel
    have hbs := hI.big
    by_cases hlt : i < keys.length
    · obtain ⟨b1, o1, cp, u, hve, hcu, hRu⟩ := HR.out.row i hlt
      obtain rfl : a = some ⟨b1, o1, none⟩ := by simpa using (Value.slice.inj hve).1
      clear hve
      obtain ⟨k, hkk⟩ : ∃ k, keys.getD i [] = k := ⟨_, rfl⟩
      rw [hkk] at hRu
      have hkm : k ∈ keys := by rw [← hkk, List.getD_eq_getElem?_getD, List.getElem?_eq_getElem hlt]; exact List.getElem_mem hlt
      have hks := HSZ.out k hkm
      have hkr := HI.out k hkm
      obtain ⟨ua, uc, rfl, hu1, hu2, hu0, hu3⟩ := id hRu
      have c1 : wr.cell? ⟨b1, o1 + i, none⟩ = some (.slice ua k.length uc) := (hI.bel.cell (p := ⟨b1, o1 + i, none⟩) (by show b1 < N; rw [← hN]; exact cell_lt hcu)).trans hcu
      have HK := Lib.hid hkk; clear hkk
      have HKM := Lib.hid hkm; clear hkm
      have HKR := Lib.hid hkr; clear hkr
      have HU := Lib.hid (hRu.mono (B := N) hI.bel hN.symm)
      have HU3 := Lib.hid hu3; clear hu3 hcu
      have HRU := Lib.hid hRu; clear hRu
      have HNW := Lib.hid hnw; clear hnw
      have HST := Lib.hid hst; clear hst
      have hsz : w.heap.size ≤ wr.heap.size := by omega
      have HB := Lib.hid (show Below w.heap.size w wr by rw [hN]; exact hI.bel)
      have HNI := Lib.hid hI; clear hI
      have i0 : (0 : Int) ≤ (i : Int) := by omega
      have i1 : (i : Int) < (keys.length : Int) := by omega
      go_wp2_with fail
      refine (wrong_any T x f x' _ k wr (HC.out.later HB.out) HU.out hks).mono ?_
      rintro e w1 ⟨rfl, hb1⟩
      have HI1 := Lib.hid (HNI.out.below hb1 (by omega))
      by_cases he : wrongE k = 0
      · rw [he]
        go_wp2_with fail
        refine (plain_any _ k w1 (HU.out.mono hb1 rfl) hks).mono ?_
        rintro e w2 ⟨rfl, hb2⟩
        have HI2 := Lib.hid (HI1.out.below hb2 (by have := HI1.out.big; omega))
        have HU2 := Lib.hid ((HU.out.mono hb1 rfl).mono hb2 rfl)
        have hss : (strOfNums (plainI k)).size ≤ maxLen := by rw [strOfNums_size, plainI_len]; unfold maxLen; omega
        have hkey := WideMaps.keyOf_string_mk Tryd.underlying9 hss
        obtain ⟨xb, hrun, hat⟩ := look_bool HI2.out.sm (Maps.string_keyed Tryd.underlying9) Tryd.underlying68 Tryd.underlying4 (Tryd.zeroValue4 w2) hkey
        obtain ⟨s, hs⟩ : ∃ s, strOfNums (plainI k) = s := ⟨_, rfl⟩
        rw [hs] at hkey hrun hat
        rw [hs]
        have HTX := Lib.hid (show s.data.toList = txtB k by rw [← hs]; rfl); clear hs hss
        have HKEY := Lib.hid hkey; clear hkey
        cases xb with
        | true =>
          have hdup : ¬ CoverOk keys := by
            obtain ⟨j, h1, h2⟩ := HST.out _ hat
            refine fun h => h.ne h1 hlt ?_
            rw [HK.out]
            exact (txtB_inj HKR.out (HI.out _ (getD_memK (by omega))) (HTX.out.symm.trans h2)).symm
          clear hat
          go_wp2
          go_ret2
          exact ⟨_, _, rfl, .inr ⟨by decide, rfl, hdup⟩, by rw [hN]; exact HI2.out.bel⟩
        | false =>
          clear hat
          have HVB := Lib.hid (show plainElem (H := Unit) Tryd.prog 4 (.bool true) = some (.lit (.bool true), []) from plainElem_bool Tryd.underlying4 true)
          have KS := Lib.hid (Maps.string_keyed (P := Tryd.prog) Tryd.underlying9)
          have hilt : i < maxLen := by unfold maxLen; omega
          go_wp2_with (at_mapUpdate; refine wpList_mapUpdate_own _ rfl _ _ _ 68 rfl 9 4 KS.out Tryd.underlying68 (plainElem Tryd.prog 4) (N + 3) i Ds rfl HI2.out.sm hilt _ _ _ rfl rfl HKEY.out _ [] HVB.out ?_; intro w3 hm3 hg3)
          have HI3 := Lib.hid (HI2.out.seenPut hg3 hm3)
          have EK := Lib.hid (ElemN.mk' (P := Tryd.prog) (t := 70) (e := 75) (z := .slice none 0 0) (size := 1) (bytes := 24) Tryd.underlying70 rfl (by decide) (by kernel_rfl))
          clear HI2 HU2 HU HI1
          go_wp2_with fail
          have d0 : w3.drew.cell? ⟨N + 2, 1, none⟩ = some kv := by have := HI3.out.blk.cell 1; simpa using this
          refine wp_region_E (fun w' => w'.cell? ⟨N + 2, 1, none⟩ = some kv) (fun j => j == 11) (by kernel_rfl) ?_
          refine wpAnyE_takeD (i := 0) (d := some 47) (v := ?_) rfl rfl (by kernel_rfl) (by kernel_rfl) (by kernel_rfl) (by kernel_rfl) (fun _ _ _ h => h) (Or.inl ⟨by rfl, ?_⟩) (by assumption) ?_
          rotate_left
          · intro w hSw; (try dsimp only at hSw); go_simp; all_goals (with_reducible rfl)
          simp only [Act.put, List.setIfInBounds_toArray, List.set_cons_zero, List.set_cons_succ]
          refine wpAnyE_takeD (i := 1) (d := some 48) (v := ?_) rfl rfl (by kernel_rfl) (by kernel_rfl) (by kernel_rfl) (by kernel_rfl) (fun _ _ _ h => h) (Or.inl ⟨by rfl, ?_⟩) (by assumption) ?_
          rotate_left
          · intro w hSw; (try dsimp only at hSw); go_simp; all_goals (with_reducible rfl)
          simp only [Act.put, List.setIfInBounds_toArray, List.set_cons_zero, List.set_cons_succ]
          refine wpAnyE_takeD (i := 2) (d := some 49) (v := ?_) rfl rfl (by kernel_rfl) (by kernel_rfl) (by kernel_rfl) (by kernel_rfl) (fun _ _ _ h => h) (Or.inl ⟨by rfl, ?_⟩) (by assumption) ?_
          rotate_left
          · intro w hSw; (try dsimp only at hSw); go_simp; all_goals (with_reducible rfl)
          simp only [Act.put, List.setIfInBounds_toArray, List.set_cons_zero, List.set_cons_succ]
          refine wpAnyE_takeD (i := 3) (d := some 50) (v := ?_) rfl rfl (by kernel_rfl) (by kernel_rfl) (by kernel_rfl) (by kernel_rfl) (fun _ _ _ h => h) (Or.inl ⟨by rfl, ?_⟩) (by assumption) ?_
          rotate_left
          · intro w hSw; (try dsimp only at hSw); go_simp; all_goals (with_reducible rfl)
          simp only [Act.put, List.setIfInBounds_toArray, List.set_cons_zero, List.set_cons_succ]
          refine wpAnyE_takeD (i := 4) (d := some 51) (v := ?_) rfl rfl (by kernel_rfl) (by kernel_rfl) (by kernel_rfl) (by kernel_rfl) (fun _ _ _ h => h) (Or.inl ⟨by rfl, ?_⟩) (by assumption) ?_
          rotate_left
          · intro w hSw; (try dsimp only at hSw); go_simp; all_goals (with_reducible rfl)
          simp only [Act.put, List.setIfInBounds_toArray, List.set_cons_zero, List.set_cons_succ]
          refine wpAnyE_takeD (i := 5) (d := some 52) (v := ?_) rfl rfl (by kernel_rfl) (by kernel_rfl) (by kernel_rfl) (by kernel_rfl) (fun _ _ _ h => h) (Or.inl ⟨by rfl, ?_⟩) (by assumption) ?_
          rotate_left
          · intro w hSw; (try dsimp only at hSw); go_simp; all_goals (with_reducible rfl)
          simp only [Act.put, List.setIfInBounds_toArray, List.set_cons_zero, List.set_cons_succ]
          refine wpAnyE_ready (rs := [6]) (by kernel_rfl) (by simp) ?_
          refine AllE.cons rfl (fun K hK => ?_) AllE.nil
          go_simp
          refine (clone_any _ k w3.drew (HRU.out.mono (B := N) HI3.out.bel.drew hN.symm) hks).mono ?_
          rintro e w4 ⟨out, rfl, hown, hb4⟩
          go_wp2_with fail
          have HI4 := Lib.hid (HI3.out.drew.below hb4 (by have := HI3.out.big; show N ≤ w3.heap.size; omega))
          have d1 : w4.cell? ⟨N + 2, 1, none⟩ = some kv := by have := HI4.out.blk.cell 1; simpa using this
          refine hK.out _ _ (fun _ => d1) ?_
          clear hK K
          try simp only [Act.put, List.setIfInBounds_toArray, List.set_cons_zero, List.set_cons_succ]
          obtain ⟨oa, oc, rfl, _⟩ := hown.shape
          refine wpAnyE_ready (rs := [7]) (by kernel_rfl) (by simp) ?_
          refine AllE.cons rfl (fun K hK => ?_) AllE.nil
          go_simp
          obtain ⟨V5, hV5, hp5⟩ : ∃ V', w4.alloc (.cells #[.slice oa k.length oc] 75) = V' ∧ Blk V' w4.heap.size #[.slice oa k.length oc] 75 := ⟨_, rfl, Blk.new _ _ _⟩
          have hs5 : V5.heap.size = w4.heap.size + 1 := by rw [← hV5]; simp
          have hb5 : Below w4.heap.size w4 V5 := by rw [← hV5]; exact (Below.refl _ _).alloc (Nat.le_refl _) _
          have HI5 := Lib.hid (HI4.out.below hb5 (by have := HI4.out.big; omega))
          have d5 : V5.cell? ⟨N + 2, 1, none⟩ = some kv := by have := HI5.out.blk.cell 1; simpa using this
          obtain ⟨p5, hpe5⟩ : ∃ q, w4.heap.size = q := ⟨_, rfl⟩
          rw [hpe5] at hp5
          try rw [hV5]
          try rw [hpe5]
          refine hK.out _ _ (fun _ => d5) ?_
          clear hK K d0 d1 d5
          try simp only [Act.put, List.setIfInBounds_toArray, List.set_cons_zero, List.set_cons_succ]
          refine wpAnyE_ready (rs := [8]) (by kernel_rfl) (by simp) ?_
          refine AllE.cons rfl (fun K hK => ?_) AllE.nil
          refine step_appendN EK.out rfl _ _ rfl (N + 4) kv i vs rfl HI5.out.row p5 #[.slice oa k.length oc] _ hp5 rfl rfl (by simp [Value.oneCell']) (by omega) (by omega) HI5.out.big ?_
          intro g6 cap6 V6 hown6 hgr6 _ _
          have hblk6 := HI5.out.blk.grown hgr6 (blk_ne_row HI5.out.blk HI5.out.row (by decide))
          have d6 : V6.cell? ⟨N + 2, 1, none⟩ = some kv := by have := hblk6.cell 1; simpa using this
          have f6 := hblk6.frozen 1
          have HI7 := Lib.hid (HI5.out.keysPut hgr6 hown6)
          refine hK.out _ _ (fun _ => d6) ?_
          clear hK K hV5 hpe5 hown6 hgr6 hblk6 hown hb4 hb5 hs5 hp5 HI4 HI5
          try simp only [Act.put, List.setIfInBounds_toArray, List.set_cons_zero, List.set_cons_succ]
          refine wpAnyE_takeD (i := 9) (d := some 56) (v := ?_) rfl rfl (by kernel_rfl) (by kernel_rfl) (by kernel_rfl) (by kernel_rfl) (fun _ _ _ h => h) (Or.inl ⟨by rfl, ?_⟩) (by assumption) ?_
          rotate_left
          · intro w hSw; (try dsimp only at hSw); go_simp; all_goals (with_reducible rfl)
          simp only [Act.put, List.setIfInBounds_toArray, List.set_cons_zero, List.set_cons_succ]
          refine wpAnyE_takeD (i := 10) (d := some 57) (v := ?_) rfl rfl (by kernel_rfl) (by kernel_rfl) (by kernel_rfl) (by kernel_rfl) (fun _ _ _ h => h) (Or.inl ⟨by rfl, ?_⟩) (by assumption) ?_
          rotate_left
          · intro w hSw; (try dsimp only at hSw); go_simp; all_goals (with_reducible rfl)
          simp only [Act.put, List.setIfInBounds_toArray, List.set_cons_zero, List.set_cons_succ]
          refine wpAnyE_ready (rs := [11]) (by kernel_rfl) (by simp) ?_
          refine AllE.cons rfl (fun K hK => ?_) AllE.nil
          go_simp
          refine hK.out _ _ (fun h => by simp at h) ?_
          clear hK K d6 f6
          try simp only [Act.put, List.setIfInBounds_toArray, List.set_cons_zero, List.set_cons_succ]
          refine wpAnyE_done (by kernel_rfl) ?_ _
          obtain ⟨V7, hV7⟩ : ∃ V, V6.setCell ⟨N + 2, 1, none⟩ (.slice (some ⟨g6, 0, none⟩) (i + 1) cap6) = V := ⟨_, rfl⟩
          rw [hV7] at HI7 ⊢
          clear hV7
          have hk1 : 1 ≤ k.length := by
            rcases Nat.lt_or_ge k.length 1 with h | h
            · exfalso; unfold wrongE at he; rw [if_pos (.inl h)] at he; omega
            · exact h
          obtain ⟨bk, ok, rfl, hckA⟩ : ∃ bk ok, ua = some ⟨bk, ok, none⟩ ∧ ∀ j, j < k.length → w.cell? ⟨bk, ok + j, none⟩ = some (.int .i32 (k.getD j 0)) := by
            rcases HU3.out with h | ⟨bk, ok, h1, h2⟩
            · rw [h] at hk1; simp at hk1
            · obtain ⟨ua2, ucap2, hh, _, _, _, hcc⟩ := HRU.out
              rcases hcc with hcc | ⟨b2, o2, hb2, hc2⟩
              · rw [hcc] at hk1; simp at hk1
              · obtain rfl : ua2 = ua := by have := Value.slice.inj hh; exact this.1.symm
                exact ⟨b2, o2, hb2, hc2⟩
          obtain ⟨x0, hx0⟩ : ∃ q, k.getD 0 0 = q := ⟨_, rfl⟩
          have hck : w.cell? ⟨bk, ok, none⟩ = some (.int .i32 x0) := by have := hckA 0 hk1; rw [hx0] at this; simpa using this
          have hx0r : -2147483648 ≤ x0 ∧ x0 ≤ 2147483647 := by rw [← hx0]; exact HKR.out _ (by rw [List.getD_eq_getElem?_getD, List.getElem?_eq_getElem hk1]; exact List.getElem_mem hk1)
          have HCKA := Lib.hid hckA; clear hckA hx0
          have HKX := Lib.hid (Maps.keyOf_int_mk (P := Tryd.prog) Tryd.underlying21 (a := x0) (by have h1 : IntKind.i32.min = -2147483648 := rfl; have h2 : IntKind.i32.max = 2147483647 := rfl; simp [Lit.wf, h1, h2]; omega))
          have EI := Lib.hid (ElemN.mk' (P := Tryd.prog) (t := 45) (e := 3) (z := .int .i64 0) (size := 1) (bytes := 8) Tryd.underlying45 rfl (by decide) (by kernel_rfl))
          have i2 : 0 < k.length := hk1
          clear HI3 HU3 hu0
          have e0 : V7.cell? ⟨N + 2, 2, none⟩ = some (.map (some N)) := by have := HI7.out.blk.cell 2; simpa using this
          have e1 : V7.cell? ⟨bk, ok, none⟩ = some (.int .i32 x0) := (HI7.out.bel.cell (p := ⟨bk, ok, none⟩) (by show bk < N; rw [← hN]; exact cell_lt hck)).trans hck
          go_wp2_with fail
          have hS0 : V7.drew.cell? ⟨N + 2, 2, none⟩ = some (.map (some N)) ∧ V7.drew.cell? ⟨bk, ok, none⟩ = some (.int .i32 x0) := ⟨e0, e1⟩
          refine wp_region_held_drew (S := fun w' => w'.cell? ⟨N + 2, 2, none⟩ = some (.map (some N)) ∧ w'.cell? ⟨bk, ok, none⟩ = some (.int .i32 x0)) (by kernel_rfl) hS0 (fun hHeld => ?_)
          clear hS0
          refine wpAnyH_takeD (i := 0) (d := some 58) (v := ?_) rfl rfl (by kernel_rfl) (by kernel_rfl) (by kernel_rfl) (fun _ _ _ h => h) (Or.inl ⟨by rfl, ?_⟩) (by assumption) ?_
          rotate_left
          · intro w hSw; (try dsimp only at hSw); go_simp; all_goals (with_reducible rfl)
          simp only [Act.put, List.setIfInBounds_toArray, List.set_cons_zero, List.set_cons_succ]
          refine wpAnyH_takeD (i := 1) (d := some 59) (v := ?_) rfl rfl (by kernel_rfl) (by kernel_rfl) (by kernel_rfl) (fun _ _ _ h => h) (Or.inl ⟨by rfl, ?_⟩) (by assumption) ?_
          rotate_left
          · intro w hSw; (try dsimp only at hSw); go_simp; all_goals (with_reducible rfl)
          simp only [Act.put, List.setIfInBounds_toArray, List.set_cons_zero, List.set_cons_succ]
          refine wpAnyH_takeD (i := 2) (d := some 60) (v := ?_) rfl rfl (by kernel_rfl) (by kernel_rfl) (by kernel_rfl) (fun _ _ _ h => h) (Or.inl ⟨by rfl, ?_⟩) (by assumption) ?_
          rotate_left
          · intro w hSw; (try dsimp only at hSw); go_simp; all_goals (with_reducible rfl)
          simp only [Act.put, List.setIfInBounds_toArray, List.set_cons_zero, List.set_cons_succ]
          refine wpAnyH_takeD (i := 3) (d := some 61) (v := ?_) rfl rfl (by kernel_rfl) (by kernel_rfl) (by kernel_rfl) (fun _ _ _ h => h) (Or.inl ⟨by rfl, ?_⟩) (by assumption) ?_
          rotate_left
          · intro w hSw; (try dsimp only at hSw); go_simp; all_goals (with_reducible rfl)
          simp only [Act.put, List.setIfInBounds_toArray, List.set_cons_zero, List.set_cons_succ]
          refine wpAnyH_takeD (i := 4) (d := some 62) (v := ?_) rfl rfl (by kernel_rfl) (by kernel_rfl) (by kernel_rfl) (fun _ _ _ h => h) (Or.inl ⟨by rfl, ?_⟩) (by assumption) ?_
          rotate_left
          · intro w hSw; (try dsimp only at hSw); go_simp; all_goals (with_reducible rfl)
          simp only [Act.put, List.setIfInBounds_toArray, List.set_cons_zero, List.set_cons_succ]
          refine wpAnyH_takeD (i := 5) (d := some 63) (v := ?_) rfl rfl (by kernel_rfl) (by kernel_rfl) (by kernel_rfl) (fun _ _ _ h => h) (Or.inl ⟨by rfl, ?_⟩) (by assumption) ?_
          rotate_left
          · intro w hSw; (try dsimp only at hSw); go_simp; all_goals (with_reducible rfl)
          simp only [Act.put, List.setIfInBounds_toArray, List.set_cons_zero, List.set_cons_succ]
          refine wpAnyH_takeD (i := 6) (d := some 64) (v := ?_) rfl rfl (by kernel_rfl) (by kernel_rfl) (by kernel_rfl) (fun _ _ _ h => h) (Or.inl ⟨by rfl, ?_⟩) (by assumption) ?_
          rotate_left
          · intro w hSw; (try dsimp only at hSw); go_simp; all_goals (with_reducible rfl)
          simp only [Act.put, List.setIfInBounds_toArray, List.set_cons_zero, List.set_cons_succ]
          refine wpAnyH_takeD (i := 7) (d := some 65) (v := ?_) rfl rfl (by kernel_rfl) (by kernel_rfl) (by kernel_rfl) (fun _ _ _ h => h) (Or.inl ⟨by rfl, ?_⟩) (by assumption) ?_
          rotate_left
          · intro w hSw; (try dsimp only at hSw); go_simp; all_goals (with_reducible rfl)
          simp only [Act.put, List.setIfInBounds_toArray, List.set_cons_zero, List.set_cons_succ]
          refine wpAnyH_takeD (i := 8) (d := some 66) (v := ?_) rfl rfl (by kernel_rfl) (by kernel_rfl) (by kernel_rfl) (fun _ _ _ h => h) (Or.inl ⟨by rfl, ?_⟩) (by assumption) ?_
          rotate_left
          · intro w hSw; (try dsimp only at hSw); go_simp; all_goals (with_reducible rfl)
          simp only [Act.put, List.setIfInBounds_toArray, List.set_cons_zero, List.set_cons_succ]
          refine wpAnyH_takeD (i := 9) (d := some 67) (v := ?_) rfl rfl (by kernel_rfl) (by kernel_rfl) (by kernel_rfl) (fun _ _ _ h => h) (Or.inl ⟨by rfl, ?_⟩) (by assumption) ?_
          rotate_left
          · intro w hSw; (try dsimp only at hSw); go_simp; all_goals (with_reducible rfl)
          simp only [Act.put, List.setIfInBounds_toArray, List.set_cons_zero, List.set_cons_succ]
          refine wpAnyH_takeD (i := 10) (d := some 68) (v := ?_) rfl rfl (by kernel_rfl) (by kernel_rfl) (by kernel_rfl) (fun _ _ _ h => h) (Or.inl ⟨by rfl, ?_⟩) (by assumption) ?_
          rotate_left
          · intro w hSw; (try dsimp only at hSw); go_simp; all_goals (with_reducible rfl)
          simp only [Act.put, List.setIfInBounds_toArray, List.set_cons_zero, List.set_cons_succ]
          refine wpAnyH_takeD (i := 11) (d := some 69) (v := ?_) rfl rfl (by kernel_rfl) (by kernel_rfl) (by kernel_rfl) (fun _ _ _ h => h) (Or.inl ⟨by rfl, ?_⟩) (by assumption) ?_
          rotate_left
          · intro w hSw; (try dsimp only at hSw); go_simp; all_goals (with_reducible rfl)
          simp only [Act.put, List.setIfInBounds_toArray, List.set_cons_zero, List.set_cons_succ]
          refine wpAnyH_takeD (i := 12) (d := some 70) (v := ?_) rfl rfl (by kernel_rfl) (by kernel_rfl) (by kernel_rfl) (fun _ _ _ h => h) (Or.inl ⟨by rfl, ?_⟩) (by assumption) ?_
          rotate_left
          · intro w hSw; (try dsimp only at hSw); go_simp; all_goals (with_reducible rfl)
          simp only [Act.put, List.setIfInBounds_toArray, List.set_cons_zero, List.set_cons_succ]
          refine wpAnyH_takeD (i := 13) (d := some 71) (v := ?_) rfl rfl (by kernel_rfl) (by kernel_rfl) (by kernel_rfl) (fun _ _ _ h => h) (Or.inl ⟨by rfl, ?_⟩) (by assumption) ?_
          rotate_left
          · intro w hSw; (try dsimp only at hSw); go_simp; all_goals (with_reducible rfl)
          simp only [Act.put, List.setIfInBounds_toArray, List.set_cons_zero, List.set_cons_succ]
          refine wpAnyH_takeD (i := 15) (d := some 73) (v := ?_) rfl rfl (by kernel_rfl) (by kernel_rfl) (by kernel_rfl) (fun _ _ _ h => h) (Or.inl ⟨by rfl, ?_⟩) (by assumption) ?_
          rotate_left
          · intro w hSw; (try dsimp only at hSw); go_simp; all_goals (with_reducible rfl)
          simp only [Act.put, List.setIfInBounds_toArray, List.set_cons_zero, List.set_cons_succ]
          have HI8 := Lib.hid HI7.out.drew; clear HI7
          obtain ⟨V8, hV8⟩ : ∃ V, V7.drew = V := ⟨_, rfl⟩
          rw [hV8] at HI8 hHeld ⊢
          clear hV8 e0 e1
          refine wpAnyH_ready (rs := [14, 16]) (by kernel_rfl) (by simp) ?_
          refine AllReadyH.cons (o := _) rfl (fun K hK => ?_) (AllReadyH.cons (o := _) rfl (fun K hK => ?_) AllReadyH.nil)
          · have HIL := HI8
            obtain ⟨gv, gz, hrunL, hatL, hoiL, hzlL, hbackL⟩ := HIL.out.grp.at (Maps.int_keyed Tryd.underlying21) Tryd.underlying134 (Tryd.zeroValue45 _) (by unfold maxLen; omega) HKX.out
            clear hatL
            have HBK := Lib.hid hbackL; clear hbackL
            have HOI := Lib.hid hoiL; clear hoiL
            go_simp
            refine hK.out _ _ hHeld (fun hHeld => ?_)
            clear hK K
            try simp only [Act.put, List.setIfInBounds_toArray, List.set_cons_zero, List.set_cons_succ]
            refine wpAnyH_ready (rs := [16]) (by kernel_rfl) (by simp) ?_
            refine AllReadyH.cons (o := _) rfl (fun K hK => ?_) AllReadyH.nil
            go_simp
            obtain ⟨VA, hVA, hPB⟩ : ∃ V', V8.alloc (.cells #[.int .i64 (i : Int)] 3) = V' ∧ Blk V' V8.heap.size #[.int .i64 (i : Int)] 3 := ⟨_, rfl, Blk.new _ _ _⟩
            have hbA : Below V8.heap.size V8 VA := by rw [← hVA]; exact (Below.refl _ _).alloc (Nat.le_refl _) _
            have hsA : VA.heap.size = V8.heap.size + 1 := by rw [← hVA]; simp
            obtain ⟨PP, hPP⟩ : ∃ q, V8.heap.size = q := ⟨_, rfl⟩
            rw [hPP] at hPB
            have dA : VA.cell? ⟨N + 2, 2, none⟩ = some (.map (some N)) := (hbA.cell (p := ⟨N + 2, 2, none⟩) (cell_lt hHeld.1)).trans hHeld.1
            have dAk : VA.cell? ⟨bk, ok, none⟩ = some (.int .i32 x0) := (hbA.cell (p := ⟨bk, ok, none⟩) (cell_lt hHeld.2)).trans hHeld.2
            try rw [hVA]
            try rw [hPP]
            refine hK.out _ _ ⟨dA, dAk⟩ (fun hHeld => ?_)
            clear hK K dA dAk
            try simp only [Act.put, List.setIfInBounds_toArray, List.set_cons_zero, List.set_cons_succ]
            have HPB := Lib.hid hPB; clear hPB
            have HOWN := Lib.hid (show VA.ownsRow (N + 4) 3 1 gv gz.length (gz.map (Value.int .i64)) from by rw [← hVA]; exact HOI.out.1.alloc _)
            have HBIG := Lib.hid (show N + 4 ≤ VA.heap.size by have := HI8.out.big; omega)
            have hgW : V8.grownBy VA gv.ownBlock := by rw [← hVA]; exact World.grownBy_alloc _ _ _
            have hszW : V8.heap.size ≤ VA.heap.size := by omega
            clear hVA hPP hbA hsA HI8
            try simp only [Act.put, List.setIfInBounds_toArray, List.set_cons_zero, List.set_cons_succ]
            refine wpAnyH_ready (rs := [17]) (by kernel_rfl) (by simp) ?_
            refine AllReadyH.cons (o := _) rfl (fun K hK => ?_) AllReadyH.nil
            refine step_appendN EI.out rfl _ _ rfl (N + 4) gv gz.length (gz.map (Value.int .i64)) rfl HOWN.out PP #[.int .i64 (i : Int)] _ HPB.out rfl rfl (by simp [Value.oneCell']) (by have := hzlL; omega) (by have := hzlL; omega) HBIG.out ?_
            intro g2 cap2 V9 hown9 hgr9 hat9 _
            have hoi9 := HOI.out.appended hown9 (by have h1 : IntKind.i64.min = -9223372036854775808 := rfl; have h2 : IntKind.i64.max = 9223372036854775807 := rfl; simp [Lit.wf, h1, h2]; omega)
            have hg09 := hgW.trans hgr9
            obtain ⟨V10, hrun10, hgo10, hg10⟩ := HBK.out V9 _ _ hg09 hoi9 (by simp; omega) (by rcases hat9 with h | h; exact .inl (by rw [h]; rfl); exact .inr ⟨g2, rfl, by rw [h]; exact hszW⟩)
            have HI9 := Lib.hid (HIL.out.grpPut HOI.out hg09 hg10 hgo10)
            have hb9 : Below N w V9 := by
              have h1 := HIL.out.big
              exact HIL.out.bel.grown hg09 (by omega) (fun j e => by have := (HOI.out.1.lt j e).1; omega)
            have d9 : V9.cell? ⟨N + 2, 2, none⟩ = some (.map (some N)) := by
              have hbk := HIL.out.blk.grown hg09 (fun e => by have := (HOI.out.1.lt _ e.symm).1; omega)
              have := hbk.cell 2; simpa using this
            have d9k : V9.cell? ⟨bk, ok, none⟩ = some (.int .i32 x0) := (hb9.cell (p := ⟨bk, ok, none⟩) (by show bk < N; rw [← hN]; exact cell_lt hck)).trans hck
            refine hK.out _ _ ⟨d9, d9k⟩ (fun hHeld => ?_)
            clear hK K
            try simp only [Act.put, List.setIfInBounds_toArray, List.set_cons_zero, List.set_cons_succ]
            refine wpAnyH_ready (rs := [18]) (by kernel_rfl) (by simp) ?_
            refine AllReadyH.cons (o := _) rfl (fun K hK => ?_) AllReadyH.nil
            go_simp
            have d10 : V10.cell? ⟨N + 2, 2, none⟩ = some (.map (some N)) := by have := HI9.out.blk.cell 2; simpa using this
            have d10k : V10.cell? ⟨bk, ok, none⟩ = some (.int .i32 x0) := (HI9.out.bel.cell (p := ⟨bk, ok, none⟩) (by show bk < N; rw [← hN]; exact cell_lt hck)).trans hck
            refine hK.out _ _ ⟨d10, d10k⟩ (fun hHeld => ?_)
            clear hK K hHeld d10 d10k hrun10 hgo10 hg10
            try simp only [Act.put, List.setIfInBounds_toArray, List.set_cons_zero, List.set_cons_succ]
            refine wpAnyH_done (by kernel_rfl) ?_ _
            clear hown9 hgr9 hat9 hoi9 hg09 hb9 d9 d9k HOI HBK HIL HOWN HPB HBIG hgW hszW hzlL
            clear hrunL
            obtain ⟨KV, VS, DG, DS, HI9, HSEEN⟩ : ∃ KV VS DG DS, Hid (NewI w N T x KV (i + 1) VS (i + 1) DG nw Dw (i + 1) DS V10) ∧ Hid (SeenTo DS keys (i + 1)) := ⟨_, _, _, _, HI9, show SeenTo (Ds.put (.string s.data.toList) (.lit (.bool true))) keys (i + 1) by have := HST.out.step; rw [HK.out, ← HTX.out] at this; exact this⟩
            by_cases huc : uc = 1
            · have hkl : k.length = 1 := by omega
              go_wp2
              refine wp_loop_rounds 1 ?_
              rw [rounds_succ]
              go_wp2
              go_roundw
              case rel => exact ⟨i + 1, _, _, _, nw, Dw, _, by omega, by go_num, HI9.out, by have := HNW.out; omega, HSEEN.out⟩
              case measure => simp [intOf]; omega
            · have hna := HC.out.nil
              have hme := HC.out.meth
              have hen := HC.out.enter
              clear HST hrun hm3 hg3 HKEY HTX
              go_wp2_with fail
              go_loopw [79] (fun s79 wi => ∃ (j nw2 : Nat) (Dw2 : DataW Unit), j + 1 ≤ k.length ∧ s79 = .int .i64 j ∧ NewI w N T x KV (i + 1) VS (i + 1) DG nw2 Dw2 (i + 1) DS wi ∧ nw2 ≤ nw + j) (fun s79 _ => k.length - (intOf s79).toNat)
              case atStart => exact ⟨0, nw, Dw, by omega, rfl, HI9.out, Nat.le_refl _⟩
              case round =>
                obtain ⟨j, nw2, Dw2, hj, rfl, hI2, hn2⟩ := hrel
                have HIW := Lib.hid hI2; clear hI2
                by_cases hjl : j + 1 < k.length
                · obtain ⟨y, hy⟩ : ∃ q, k.getD (1 + j) 0 = q := ⟨_, rfl⟩
                  have hcy : wr.cell? ⟨bk, ok + 1 + j, none⟩ = some (.int .i32 y) := by
                    have h1 := HCKA.out (1 + j) (by omega)
                    rw [hy] at h1
                    have h2 : ok + (1 + j) = ok + 1 + j := by omega
                    rw [h2] at h1
                    exact (HIW.out.bel.cell (p := ⟨bk, ok + 1 + j, none⟩) (by show bk < N; rw [← hN]; exact cell_lt h1)).trans h1
                  have hyr : -2147483648 ≤ y ∧ y ≤ 2147483647 := by rw [← hy]; exact HKR.out _ (by rw [List.getD_eq_getElem?_getD, List.getElem?_eq_getElem (by omega)]; exact List.getElem_mem (by omega))
                  have HKY := Lib.hid (Maps.keyOf_int_mk (P := Tryd.prog) Tryd.underlying21 (a := y) (by have h1 : IntKind.i32.min = -2147483648 := rfl; have h2 : IntKind.i32.max = 2147483647 := rfl; simp [Lit.wf, h1, h2]; omega))
                  have dM : wr.cell? ⟨N + 2, 3, none⟩ = some (.map (some (N + 1))) := by have := HIW.out.blk.cell 3; simpa using this
                  have j0 : (0 : Int) ≤ (j : Int) := by omega
                  have j1 : j < k.length - 1 := by omega
                  clear hy
                  go_wp2_with fail
                  have hS0 : wr.drew.cell? ⟨N + 2, 3, none⟩ = some (.map (some (N + 1))) := dM
                  refine wp_region_held_drew (S := fun w' => w'.cell? ⟨N + 2, 3, none⟩ = some (.map (some (N + 1)))) (by kernel_rfl) hS0 (fun hHeld => ?_)
                  clear hS0
                  obtain ⟨VI, hVI⟩ : ∃ V, wr.drew = V := ⟨_, rfl⟩
                  have HIV := Lib.hid HIW.out.drew
                  rw [hVI] at HIV hHeld ⊢
                  clear hVI HIW dM
                  refine wpAnyH_takeD (i := 0) (d := some 83) (v := ?_) rfl rfl (by kernel_rfl) (by kernel_rfl) (by kernel_rfl) (fun _ _ _ h => h) (Or.inl ⟨by rfl, ?_⟩) (by assumption) ?_
                  rotate_left
                  · intro w hSw; (try dsimp only at hSw); go_simp; all_goals (with_reducible rfl)
                  simp only [Act.put, List.setIfInBounds_toArray, List.set_cons_zero, List.set_cons_succ]
                  refine wpAnyH_takeD (i := 1) (d := some 84) (v := ?_) rfl rfl (by kernel_rfl) (by kernel_rfl) (by kernel_rfl) (fun _ _ _ h => h) (Or.inl ⟨by rfl, ?_⟩) (by assumption) ?_
                  rotate_left
                  · intro w hSw; (try dsimp only at hSw); go_simp; all_goals (with_reducible rfl)
                  simp only [Act.put, List.setIfInBounds_toArray, List.set_cons_zero, List.set_cons_succ]
                  refine wpAnyH_takeD (i := 2) (d := some 85) (v := ?_) rfl rfl (by kernel_rfl) (by kernel_rfl) (by kernel_rfl) (fun _ _ _ h => h) (Or.inl ⟨by rfl, ?_⟩) (by assumption) ?_
                  rotate_left
                  · intro w hSw; (try dsimp only at hSw); go_simp; all_goals (with_reducible rfl)
                  simp only [Act.put, List.setIfInBounds_toArray, List.set_cons_zero, List.set_cons_succ]
                  refine wpAnyH_takeD (i := 3) (d := some 86) (v := ?_) rfl rfl (by kernel_rfl) (by kernel_rfl) (by kernel_rfl) (fun _ _ _ h => h) (Or.inl ⟨by rfl, ?_⟩) (by assumption) ?_
                  rotate_left
                  · intro w hSw; (try dsimp only at hSw); go_simp; all_goals (with_reducible rfl)
                  simp only [Act.put, List.setIfInBounds_toArray, List.set_cons_zero, List.set_cons_succ]
                  refine wpAnyH_takeD (i := 4) (d := some 87) (v := ?_) rfl rfl (by kernel_rfl) (by kernel_rfl) (by kernel_rfl) (fun _ _ _ h => h) (Or.inl ⟨by rfl, ?_⟩) (by assumption) ?_
                  rotate_left
                  · intro w hSw; (try dsimp only at hSw); go_simp; all_goals (with_reducible rfl)
                  simp only [Act.put, List.setIfInBounds_toArray, List.set_cons_zero, List.set_cons_succ]
                  refine wpAnyH_takeD (i := 5) (d := some 88) (v := ?_) rfl rfl (by kernel_rfl) (by kernel_rfl) (by kernel_rfl) (fun _ _ _ h => h) (Or.inl ⟨by rfl, ?_⟩) (by assumption) ?_
                  rotate_left
                  · intro w hSw; (try dsimp only at hSw); go_simp; all_goals (with_reducible rfl)
                  simp only [Act.put, List.setIfInBounds_toArray, List.set_cons_zero, List.set_cons_succ]
                  refine wpAnyH_takeD (i := 6) (d := some 89) (v := ?_) rfl rfl (by kernel_rfl) (by kernel_rfl) (by kernel_rfl) (fun _ _ _ h => h) (Or.inl ⟨by rfl, ?_⟩) (by assumption) ?_
                  rotate_left
                  · intro w hSw; (try dsimp only at hSw); go_simp; all_goals (with_reducible rfl)
                  simp only [Act.put, List.setIfInBounds_toArray, List.set_cons_zero, List.set_cons_succ]
                  refine wpAnyH_takeD (i := 7) (d := some 90) (v := ?_) rfl rfl (by kernel_rfl) (by kernel_rfl) (by kernel_rfl) (fun _ _ _ h => h) (Or.inl ⟨by rfl, ?_⟩) (by assumption) ?_
                  rotate_left
                  · intro w hSw; (try dsimp only at hSw); go_simp; all_goals (with_reducible rfl)
                  simp only [Act.put, List.setIfInBounds_toArray, List.set_cons_zero, List.set_cons_succ]
                  refine wpAnyH_takeD (i := 8) (d := some 91) (v := ?_) rfl rfl (by kernel_rfl) (by kernel_rfl) (by kernel_rfl) (fun _ _ _ h => h) (Or.inl ⟨by rfl, ?_⟩) (by assumption) ?_
                  rotate_left
                  · intro w hSw; (try dsimp only at hSw); go_simp; all_goals (with_reducible rfl)
                  simp only [Act.put, List.setIfInBounds_toArray, List.set_cons_zero, List.set_cons_succ]
                  refine wpAnyH_takeD (i := 9) (d := some 92) (v := ?_) rfl rfl (by kernel_rfl) (by kernel_rfl) (by kernel_rfl) (fun _ _ _ h => h) (Or.inl ⟨by rfl, ?_⟩) (by assumption) ?_
                  rotate_left
                  · intro w hSw; (try dsimp only at hSw); go_simp; all_goals (with_reducible rfl)
                  simp only [Act.put, List.setIfInBounds_toArray, List.set_cons_zero, List.set_cons_succ]
                  refine wpAnyH_ready (rs := [10]) (by kernel_rfl) (by simp) ?_
                  refine AllReadyH.cons (o := _) rfl (fun K hK => ?_) AllReadyH.nil
                  obtain ⟨yb, hrunW, hatW⟩ := look_bool HIV.out.wm (Maps.int_keyed Tryd.underlying21) Tryd.underlying135 Tryd.underlying4 (Tryd.zeroValue4 VI) HKY.out
                  clear hatW
                  go_simp
                  refine hK.out _ _ hHeld (fun hHeld => ?_)
                  clear hK K
                  try simp only [Act.put, List.setIfInBounds_toArray, List.set_cons_zero, List.set_cons_succ]
                  cases yb with
                  | true =>
                    refine wpAnyH_takeD (i := 11) (d := some 94) (v := ?_) rfl rfl (by kernel_rfl) (by kernel_rfl) (by kernel_rfl) (fun _ _ _ h => h) (Or.inl ⟨by rfl, ?_⟩) (by assumption) ?_
                    rotate_left
                    · intro w hSw; (try dsimp only at hSw); go_simp; all_goals (with_reducible rfl)
                    simp only [Act.put, List.setIfInBounds_toArray, List.set_cons_zero, List.set_cons_succ]
                    refine wpAnyH_takeD (i := 12) (d := some 95) (v := undef) rfl rfl (by kernel_rfl) (by kernel_rfl) (by kernel_rfl) (fun _ _ _ h => h) (Or.inr ⟨by rfl, rfl⟩) (by assumption) ?_
                    simp only [Act.put, List.setIfInBounds_toArray, List.set_cons_zero, List.set_cons_succ]
                    refine wpAnyH_takeD (i := 13) (d := some 96) (v := undef) rfl rfl (by kernel_rfl) (by kernel_rfl) (by kernel_rfl) (fun _ _ _ h => h) (Or.inr ⟨by rfl, rfl⟩) (by assumption) ?_
                    simp only [Act.put, List.setIfInBounds_toArray, List.set_cons_zero, List.set_cons_succ]
                    refine wpAnyH_takeD (i := 14) (d := some 97) (v := undef) rfl rfl (by kernel_rfl) (by kernel_rfl) (by kernel_rfl) (fun _ _ _ h => h) (Or.inr ⟨by rfl, rfl⟩) (by assumption) ?_
                    simp only [Act.put, List.setIfInBounds_toArray, List.set_cons_zero, List.set_cons_succ]
                    refine wpAnyH_takeD (i := 15) (d := some 98) (v := undef) rfl rfl (by kernel_rfl) (by kernel_rfl) (by kernel_rfl) (fun _ _ _ h => h) (Or.inr ⟨by rfl, rfl⟩) (by assumption) ?_
                    simp only [Act.put, List.setIfInBounds_toArray, List.set_cons_zero, List.set_cons_succ]
                    refine wpAnyH_takeD (i := 16) (d := some 99) (v := ?_) rfl rfl (by kernel_rfl) (by kernel_rfl) (by kernel_rfl) (fun _ _ _ h => h) (Or.inl ⟨by rfl, ?_⟩) (by assumption) ?_
                    rotate_left
                    · intro w hSw; (try dsimp only at hSw); go_simp; all_goals (with_reducible rfl)
                    simp only [Act.put, List.setIfInBounds_toArray, List.set_cons_zero, List.set_cons_succ]
                    obtain ⟨VU, hrunU, hmU, hgU⟩ := HIV.out.wm.update (Maps.int_keyed Tryd.underlying21) Tryd.underlying135 (by unfold maxLen; have := HNW.out; omega) HKY.out (plainElem_bool (H := Unit) Tryd.underlying4 true)
                    have HIU := Lib.hid (HIV.out.withinPut hgU hmU)
                    refine wpAnyH_ready (rs := [17]) (by kernel_rfl) (by simp) ?_
                    refine AllReadyH.cons (o := _) rfl (fun K hK => ?_) AllReadyH.nil
                    go_simp
                    have dU : VU.cell? ⟨N + 2, 3, none⟩ = some (.map (some (N + 1))) := by have := HIU.out.blk.cell 3; simpa using this
                    refine hK.out _ _ dU (fun hHeld => ?_)
                    clear hK K dU hrunW hrunU hmU hgU hHeld
                    try simp only [Act.put, List.setIfInBounds_toArray, List.set_cons_zero, List.set_cons_succ]
                    refine wpAnyH_done (by kernel_rfl) ?_ _
                    go_wp2
                    go_roundw
                    case rel => exact ⟨j + 1, _, _, by omega, by go_num, HIU.out, by omega⟩
                    case measure => simp [intOf]; omega
                  | false =>
                    refine wpAnyH_takeD (i := 11) (d := some 94) (v := ?_) rfl rfl (by kernel_rfl) (by kernel_rfl) (by kernel_rfl) (fun _ _ _ h => h) (Or.inl ⟨by rfl, ?_⟩) (by assumption) ?_
                    rotate_left
                    · intro w hSw; (try dsimp only at hSw); go_simp; all_goals (with_reducible rfl)
                    simp only [Act.put, List.setIfInBounds_toArray, List.set_cons_zero, List.set_cons_succ]
                    refine wpAnyH_takeD (i := 12) (d := some 95) (v := ?_) rfl rfl (by kernel_rfl) (by kernel_rfl) (by kernel_rfl) (fun _ _ _ h => h) (Or.inl ⟨by rfl, ?_⟩) (by assumption) ?_
                    rotate_left
                    · intro w hSw; (try dsimp only at hSw); go_simp; all_goals (with_reducible rfl)
                    simp only [Act.put, List.setIfInBounds_toArray, List.set_cons_zero, List.set_cons_succ]
                    refine wpAnyH_takeD (i := 13) (d := some 96) (v := ?_) rfl rfl (by kernel_rfl) (by kernel_rfl) (by kernel_rfl) (fun _ _ _ h => h) (Or.inl ⟨by rfl, ?_⟩) (by assumption) ?_
                    rotate_left
                    · intro w hSw; (try dsimp only at hSw); go_simp; all_goals (with_reducible rfl)
                    simp only [Act.put, List.setIfInBounds_toArray, List.set_cons_zero, List.set_cons_succ]
                    refine wpAnyH_ready (rs := [14]) (by kernel_rfl) (by simp) ?_
                    refine AllReadyH.cons (o := _) rfl (fun K hK => ?_) AllReadyH.nil
                    go_simp
                    refine (HC.out.call _ ?bel _).mono ?_
                    case bel => rw [hN]; exact HIV.out.bel
                    rintro e w9 ⟨rfl, hb9⟩
                    go_wp2_with fail
                    have HI9' := Lib.hid (HIV.out.below hb9 (by have := HIV.out.big; omega))
                    have d9 : w9.cell? ⟨N + 2, 3, none⟩ = some (.map (some (N + 1))) := by have := HI9'.out.blk.cell 3; simpa using this
                    refine hK.out _ _ d9 (fun hHeld => ?_)
                    clear hK K hrunW HIV
                    try simp only [Act.put, List.setIfInBounds_toArray, List.set_cons_zero, List.set_cons_succ]
                    refine wpAnyH_takeD (i := 15) (d := some 98) (v := ?_) rfl rfl (by kernel_rfl) (by kernel_rfl) (by kernel_rfl) (fun _ _ _ h => h) (Or.inl ⟨by rfl, ?_⟩) (by assumption) ?_
                    rotate_left
                    · intro w hSw; (try dsimp only at hSw); go_simp; all_goals (with_reducible rfl)
                    simp only [Act.put, List.setIfInBounds_toArray, List.set_cons_zero, List.set_cons_succ]
                    refine wpAnyH_takeD (i := 16) (d := some 99) (v := ?_) rfl rfl (by kernel_rfl) (by kernel_rfl) (by kernel_rfl) (fun _ _ _ h => h) (Or.inl ⟨by rfl, ?_⟩) (by assumption) ?_
                    rotate_left
                    · intro w hSw; (try dsimp only at hSw); go_simp; all_goals (with_reducible rfl)
                    simp only [Act.put, List.setIfInBounds_toArray, List.set_cons_zero, List.set_cons_succ]
                    obtain ⟨VU, hrunU, hmU, hgU⟩ := HI9'.out.wm.update (Maps.int_keyed Tryd.underlying21) Tryd.underlying135 (by unfold maxLen; have := HNW.out; omega) HKY.out (plainElem_bool (H := Unit) Tryd.underlying4 (cls y == 0))
                    have HIU := Lib.hid (HI9'.out.withinPut hgU hmU)
                    refine wpAnyH_ready (rs := [17]) (by kernel_rfl) (by simp) ?_
                    refine AllReadyH.cons (o := _) rfl (fun K hK => ?_) AllReadyH.nil
                    go_simp
                    have dU : VU.cell? ⟨N + 2, 3, none⟩ = some (.map (some (N + 1))) := by have := HIU.out.blk.cell 3; simpa using this
                    refine hK.out _ _ dU (fun hHeld => ?_)
                    clear hK K dU hrunU hmU hgU hHeld d9
                    try simp only [Act.put, List.setIfInBounds_toArray, List.set_cons_zero, List.set_cons_succ]
                    refine wpAnyH_done (by kernel_rfl) ?_ _
                    go_wp2
                    go_roundw
                    case rel => exact ⟨j + 1, _, _, by omega, by go_num, HIU.out, by omega⟩
                    case measure => simp [intOf]; omega
                · have j1 : ¬ j < k.length - 1 := by omega
                  go_wp2
                  go_roundw
                  case rel => exact ⟨i + 1, _, _, _, nw2, Dw2, _, by omega, by go_num, HIW.out, by have := HNW.out; omega, HSEEN.out⟩
                  case measure => simp [intOf]; omega
          · go_simp
            obtain ⟨VA, hVA, hPB⟩ : ∃ V', V8.alloc (.cells #[.int .i64 (i : Int)] 3) = V' ∧ Blk V' V8.heap.size #[.int .i64 (i : Int)] 3 := ⟨_, rfl, Blk.new _ _ _⟩
            have hbA : Below V8.heap.size V8 VA := by rw [← hVA]; exact (Below.refl _ _).alloc (Nat.le_refl _) _
            have hsA : VA.heap.size = V8.heap.size + 1 := by rw [← hVA]; simp
            obtain ⟨PP, hPP⟩ : ∃ q, V8.heap.size = q := ⟨_, rfl⟩
            rw [hPP] at hPB
            have dA : VA.cell? ⟨N + 2, 2, none⟩ = some (.map (some N)) := (hbA.cell (p := ⟨N + 2, 2, none⟩) (cell_lt hHeld.1)).trans hHeld.1
            have dAk : VA.cell? ⟨bk, ok, none⟩ = some (.int .i32 x0) := (hbA.cell (p := ⟨bk, ok, none⟩) (cell_lt hHeld.2)).trans hHeld.2
            try rw [hVA]
            try rw [hPP]
            refine hK.out _ _ ⟨dA, dAk⟩ (fun hHeld => ?_)
            clear hK K dA dAk
            try simp only [Act.put, List.setIfInBounds_toArray, List.set_cons_zero, List.set_cons_succ]
            have HIL := Lib.hid (HI8.out.below hbA (by have := HI8.out.big; omega))
            have HPB := Lib.hid hPB; clear hPB
            clear hVA hPP hbA hsA HI8
            refine wpAnyH_ready (rs := [14]) (by kernel_rfl) (by simp) ?_
            refine AllReadyH.cons (o := _) rfl (fun K hK => ?_) AllReadyH.nil
            obtain ⟨gv, gz, hrunL, hatL, hoiL, hzlL, hbackL⟩ := HIL.out.grp.at (Maps.int_keyed Tryd.underlying21) Tryd.underlying134 (Tryd.zeroValue45 _) (by unfold maxLen; omega) HKX.out
            clear hatL
            have HBK := Lib.hid hbackL; clear hbackL
            have HOI := Lib.hid hoiL; clear hoiL
            go_simp
            refine hK.out _ _ hHeld (fun hHeld => ?_)
            clear hK K
            have HOWN := Lib.hid HOI.out.1
            have HBIG := Lib.hid HIL.out.big
            have hgW : VA.grownBy VA gv.ownBlock := ⟨rfl, rfl, rfl, Nat.le_refl _, fun _ _ _ => rfl⟩
            have hszW : VA.heap.size ≤ VA.heap.size := Nat.le_refl _
            try simp only [Act.put, List.setIfInBounds_toArray, List.set_cons_zero, List.set_cons_succ]
            refine wpAnyH_ready (rs := [17]) (by kernel_rfl) (by simp) ?_
            refine AllReadyH.cons (o := _) rfl (fun K hK => ?_) AllReadyH.nil
            refine step_appendN EI.out rfl _ _ rfl (N + 4) gv gz.length (gz.map (Value.int .i64)) rfl HOWN.out PP #[.int .i64 (i : Int)] _ HPB.out rfl rfl (by simp [Value.oneCell']) (by have := hzlL; omega) (by have := hzlL; omega) HBIG.out ?_
            intro g2 cap2 V9 hown9 hgr9 hat9 _
            have hoi9 := HOI.out.appended hown9 (by have h1 : IntKind.i64.min = -9223372036854775808 := rfl; have h2 : IntKind.i64.max = 9223372036854775807 := rfl; simp [Lit.wf, h1, h2]; omega)
            have hg09 := hgW.trans hgr9
            obtain ⟨V10, hrun10, hgo10, hg10⟩ := HBK.out V9 _ _ hg09 hoi9 (by simp; omega) (by rcases hat9 with h | h; exact .inl (by rw [h]; rfl); exact .inr ⟨g2, rfl, by rw [h]; exact hszW⟩)
            have HI9 := Lib.hid (HIL.out.grpPut HOI.out hg09 hg10 hgo10)
            have hb9 : Below N w V9 := by
              have h1 := HIL.out.big
              exact HIL.out.bel.grown hg09 (by omega) (fun j e => by have := (HOI.out.1.lt j e).1; omega)
            have d9 : V9.cell? ⟨N + 2, 2, none⟩ = some (.map (some N)) := by
              have hbk := HIL.out.blk.grown hg09 (fun e => by have := (HOI.out.1.lt _ e.symm).1; omega)
              have := hbk.cell 2; simpa using this
            have d9k : V9.cell? ⟨bk, ok, none⟩ = some (.int .i32 x0) := (hb9.cell (p := ⟨bk, ok, none⟩) (by show bk < N; rw [← hN]; exact cell_lt hck)).trans hck
            refine hK.out _ _ ⟨d9, d9k⟩ (fun hHeld => ?_)
            clear hK K
            try simp only [Act.put, List.setIfInBounds_toArray, List.set_cons_zero, List.set_cons_succ]
            refine wpAnyH_ready (rs := [18]) (by kernel_rfl) (by simp) ?_
            refine AllReadyH.cons (o := _) rfl (fun K hK => ?_) AllReadyH.nil
            go_simp
            have d10 : V10.cell? ⟨N + 2, 2, none⟩ = some (.map (some N)) := by have := HI9.out.blk.cell 2; simpa using this
            have d10k : V10.cell? ⟨bk, ok, none⟩ = some (.int .i32 x0) := (HI9.out.bel.cell (p := ⟨bk, ok, none⟩) (by show bk < N; rw [← hN]; exact cell_lt hck)).trans hck
            refine hK.out _ _ ⟨d10, d10k⟩ (fun hHeld => ?_)
            clear hK K hHeld d10 d10k hrun10 hgo10 hg10
            try simp only [Act.put, List.setIfInBounds_toArray, List.set_cons_zero, List.set_cons_succ]
            refine wpAnyH_done (by kernel_rfl) ?_ _
            clear hown9 hgr9 hat9 hoi9 hg09 hb9 d9 d9k HOI HBK HIL HOWN HPB HBIG hgW hszW hzlL
            clear hrunL
            obtain ⟨KV, VS, DG, DS, HI9, HSEEN⟩ : ∃ KV VS DG DS, Hid (NewI w N T x KV (i + 1) VS (i + 1) DG nw Dw (i + 1) DS V10) ∧ Hid (SeenTo DS keys (i + 1)) := ⟨_, _, _, _, HI9, show SeenTo (Ds.put (.string s.data.toList) (.lit (.bool true))) keys (i + 1) by have := HST.out.step; rw [HK.out, ← HTX.out] at this; exact this⟩
            by_cases huc : uc = 1
            · have hkl : k.length = 1 := by omega
              go_wp2
              refine wp_loop_rounds 1 ?_
              rw [rounds_succ]
              go_wp2
              go_roundw
              case rel => exact ⟨i + 1, _, _, _, nw, Dw, _, by omega, by go_num, HI9.out, by have := HNW.out; omega, HSEEN.out⟩
              case measure => simp [intOf]; omega
            · have hna := HC.out.nil
              have hme := HC.out.meth
              have hen := HC.out.enter
              clear HST hrun hm3 hg3 HKEY HTX
              go_wp2_with fail
              go_loopw [79] (fun s79 wi => ∃ (j nw2 : Nat) (Dw2 : DataW Unit), j + 1 ≤ k.length ∧ s79 = .int .i64 j ∧ NewI w N T x KV (i + 1) VS (i + 1) DG nw2 Dw2 (i + 1) DS wi ∧ nw2 ≤ nw + j) (fun s79 _ => k.length - (intOf s79).toNat)
              case atStart => exact ⟨0, nw, Dw, by omega, rfl, HI9.out, Nat.le_refl _⟩
              case round =>
                obtain ⟨j, nw2, Dw2, hj, rfl, hI2, hn2⟩ := hrel
                have HIW := Lib.hid hI2; clear hI2
                by_cases hjl : j + 1 < k.length
                · obtain ⟨y, hy⟩ : ∃ q, k.getD (1 + j) 0 = q := ⟨_, rfl⟩
                  have hcy : wr.cell? ⟨bk, ok + 1 + j, none⟩ = some (.int .i32 y) := by
                    have h1 := HCKA.out (1 + j) (by omega)
                    rw [hy] at h1
                    have h2 : ok + (1 + j) = ok + 1 + j := by omega
                    rw [h2] at h1
                    exact (HIW.out.bel.cell (p := ⟨bk, ok + 1 + j, none⟩) (by show bk < N; rw [← hN]; exact cell_lt h1)).trans h1
                  have hyr : -2147483648 ≤ y ∧ y ≤ 2147483647 := by rw [← hy]; exact HKR.out _ (by rw [List.getD_eq_getElem?_getD, List.getElem?_eq_getElem (by omega)]; exact List.getElem_mem (by omega))
                  have HKY := Lib.hid (Maps.keyOf_int_mk (P := Tryd.prog) Tryd.underlying21 (a := y) (by have h1 : IntKind.i32.min = -2147483648 := rfl; have h2 : IntKind.i32.max = 2147483647 := rfl; simp [Lit.wf, h1, h2]; omega))
                  have dM : wr.cell? ⟨N + 2, 3, none⟩ = some (.map (some (N + 1))) := by have := HIW.out.blk.cell 3; simpa using this
                  have j0 : (0 : Int) ≤ (j : Int) := by omega
                  have j1 : j < k.length - 1 := by omega
                  clear hy
                  go_wp2_with fail
                  have hS0 : wr.drew.cell? ⟨N + 2, 3, none⟩ = some (.map (some (N + 1))) := dM
                  refine wp_region_held_drew (S := fun w' => w'.cell? ⟨N + 2, 3, none⟩ = some (.map (some (N + 1)))) (by kernel_rfl) hS0 (fun hHeld => ?_)
                  clear hS0
                  obtain ⟨VI, hVI⟩ : ∃ V, wr.drew = V := ⟨_, rfl⟩
                  have HIV := Lib.hid HIW.out.drew
                  rw [hVI] at HIV hHeld ⊢
                  clear hVI HIW dM
                  refine wpAnyH_takeD (i := 0) (d := some 83) (v := ?_) rfl rfl (by kernel_rfl) (by kernel_rfl) (by kernel_rfl) (fun _ _ _ h => h) (Or.inl ⟨by rfl, ?_⟩) (by assumption) ?_
                  rotate_left
                  · intro w hSw; (try dsimp only at hSw); go_simp; all_goals (with_reducible rfl)
                  simp only [Act.put, List.setIfInBounds_toArray, List.set_cons_zero, List.set_cons_succ]
                  refine wpAnyH_takeD (i := 1) (d := some 84) (v := ?_) rfl rfl (by kernel_rfl) (by kernel_rfl) (by kernel_rfl) (fun _ _ _ h => h) (Or.inl ⟨by rfl, ?_⟩) (by assumption) ?_
                  rotate_left
                  · intro w hSw; (try dsimp only at hSw); go_simp; all_goals (with_reducible rfl)
                  simp only [Act.put, List.setIfInBounds_toArray, List.set_cons_zero, List.set_cons_succ]
                  refine wpAnyH_takeD (i := 2) (d := some 85) (v := ?_) rfl rfl (by kernel_rfl) (by kernel_rfl) (by kernel_rfl) (fun _ _ _ h => h) (Or.inl ⟨by rfl, ?_⟩) (by assumption) ?_
                  rotate_left
                  · intro w hSw; (try dsimp only at hSw); go_simp; all_goals (with_reducible rfl)
                  simp only [Act.put, List.setIfInBounds_toArray, List.set_cons_zero, List.set_cons_succ]
                  refine wpAnyH_takeD (i := 3) (d := some 86) (v := ?_) rfl rfl (by kernel_rfl) (by kernel_rfl) (by kernel_rfl) (fun _ _ _ h => h) (Or.inl ⟨by rfl, ?_⟩) (by assumption) ?_
                  rotate_left
                  · intro w hSw; (try dsimp only at hSw); go_simp; all_goals (with_reducible rfl)
                  simp only [Act.put, List.setIfInBounds_toArray, List.set_cons_zero, List.set_cons_succ]
                  refine wpAnyH_takeD (i := 4) (d := some 87) (v := ?_) rfl rfl (by kernel_rfl) (by kernel_rfl) (by kernel_rfl) (fun _ _ _ h => h) (Or.inl ⟨by rfl, ?_⟩) (by assumption) ?_
                  rotate_left
                  · intro w hSw; (try dsimp only at hSw); go_simp; all_goals (with_reducible rfl)
                  simp only [Act.put, List.setIfInBounds_toArray, List.set_cons_zero, List.set_cons_succ]
                  refine wpAnyH_takeD (i := 5) (d := some 88) (v := ?_) rfl rfl (by kernel_rfl) (by kernel_rfl) (by kernel_rfl) (fun _ _ _ h => h) (Or.inl ⟨by rfl, ?_⟩) (by assumption) ?_
                  rotate_left
                  · intro w hSw; (try dsimp only at hSw); go_simp; all_goals (with_reducible rfl)
                  simp only [Act.put, List.setIfInBounds_toArray, List.set_cons_zero, List.set_cons_succ]
                  refine wpAnyH_takeD (i := 6) (d := some 89) (v := ?_) rfl rfl (by kernel_rfl) (by kernel_rfl) (by kernel_rfl) (fun _ _ _ h => h) (Or.inl ⟨by rfl, ?_⟩) (by assumption) ?_
                  rotate_left
                  · intro w hSw; (try dsimp only at hSw); go_simp; all_goals (with_reducible rfl)
                  simp only [Act.put, List.setIfInBounds_toArray, List.set_cons_zero, List.set_cons_succ]
                  refine wpAnyH_takeD (i := 7) (d := some 90) (v := ?_) rfl rfl (by kernel_rfl) (by kernel_rfl) (by kernel_rfl) (fun _ _ _ h => h) (Or.inl ⟨by rfl, ?_⟩) (by assumption) ?_
                  rotate_left
                  · intro w hSw; (try dsimp only at hSw); go_simp; all_goals (with_reducible rfl)
                  simp only [Act.put, List.setIfInBounds_toArray, List.set_cons_zero, List.set_cons_succ]
                  refine wpAnyH_takeD (i := 8) (d := some 91) (v := ?_) rfl rfl (by kernel_rfl) (by kernel_rfl) (by kernel_rfl) (fun _ _ _ h => h) (Or.inl ⟨by rfl, ?_⟩) (by assumption) ?_
                  rotate_left
                  · intro w hSw; (try dsimp only at hSw); go_simp; all_goals (with_reducible rfl)
                  simp only [Act.put, List.setIfInBounds_toArray, List.set_cons_zero, List.set_cons_succ]
                  refine wpAnyH_takeD (i := 9) (d := some 92) (v := ?_) rfl rfl (by kernel_rfl) (by kernel_rfl) (by kernel_rfl) (fun _ _ _ h => h) (Or.inl ⟨by rfl, ?_⟩) (by assumption) ?_
                  rotate_left
                  · intro w hSw; (try dsimp only at hSw); go_simp; all_goals (with_reducible rfl)
                  simp only [Act.put, List.setIfInBounds_toArray, List.set_cons_zero, List.set_cons_succ]
                  refine wpAnyH_ready (rs := [10]) (by kernel_rfl) (by simp) ?_
                  refine AllReadyH.cons (o := _) rfl (fun K hK => ?_) AllReadyH.nil
                  obtain ⟨yb, hrunW, hatW⟩ := look_bool HIV.out.wm (Maps.int_keyed Tryd.underlying21) Tryd.underlying135 Tryd.underlying4 (Tryd.zeroValue4 VI) HKY.out
                  clear hatW
                  go_simp
                  refine hK.out _ _ hHeld (fun hHeld => ?_)
                  clear hK K
                  try simp only [Act.put, List.setIfInBounds_toArray, List.set_cons_zero, List.set_cons_succ]
                  cases yb with
                  | true =>
                    refine wpAnyH_takeD (i := 11) (d := some 94) (v := ?_) rfl rfl (by kernel_rfl) (by kernel_rfl) (by kernel_rfl) (fun _ _ _ h => h) (Or.inl ⟨by rfl, ?_⟩) (by assumption) ?_
                    rotate_left
                    · intro w hSw; (try dsimp only at hSw); go_simp; all_goals (with_reducible rfl)
                    simp only [Act.put, List.setIfInBounds_toArray, List.set_cons_zero, List.set_cons_succ]
                    refine wpAnyH_takeD (i := 12) (d := some 95) (v := undef) rfl rfl (by kernel_rfl) (by kernel_rfl) (by kernel_rfl) (fun _ _ _ h => h) (Or.inr ⟨by rfl, rfl⟩) (by assumption) ?_
                    simp only [Act.put, List.setIfInBounds_toArray, List.set_cons_zero, List.set_cons_succ]
                    refine wpAnyH_takeD (i := 13) (d := some 96) (v := undef) rfl rfl (by kernel_rfl) (by kernel_rfl) (by kernel_rfl) (fun _ _ _ h => h) (Or.inr ⟨by rfl, rfl⟩) (by assumption) ?_
                    simp only [Act.put, List.setIfInBounds_toArray, List.set_cons_zero, List.set_cons_succ]
                    refine wpAnyH_takeD (i := 14) (d := some 97) (v := undef) rfl rfl (by kernel_rfl) (by kernel_rfl) (by kernel_rfl) (fun _ _ _ h => h) (Or.inr ⟨by rfl, rfl⟩) (by assumption) ?_
                    simp only [Act.put, List.setIfInBounds_toArray, List.set_cons_zero, List.set_cons_succ]
                    refine wpAnyH_takeD (i := 15) (d := some 98) (v := undef) rfl rfl (by kernel_rfl) (by kernel_rfl) (by kernel_rfl) (fun _ _ _ h => h) (Or.inr ⟨by rfl, rfl⟩) (by assumption) ?_
                    simp only [Act.put, List.setIfInBounds_toArray, List.set_cons_zero, List.set_cons_succ]
                    refine wpAnyH_takeD (i := 16) (d := some 99) (v := ?_) rfl rfl (by kernel_rfl) (by kernel_rfl) (by kernel_rfl) (fun _ _ _ h => h) (Or.inl ⟨by rfl, ?_⟩) (by assumption) ?_
                    rotate_left
                    · intro w hSw; (try dsimp only at hSw); go_simp; all_goals (with_reducible rfl)
                    simp only [Act.put, List.setIfInBounds_toArray, List.set_cons_zero, List.set_cons_succ]
                    obtain ⟨VU, hrunU, hmU, hgU⟩ := HIV.out.wm.update (Maps.int_keyed Tryd.underlying21) Tryd.underlying135 (by unfold maxLen; have := HNW.out; omega) HKY.out (plainElem_bool (H := Unit) Tryd.underlying4 true)
                    have HIU := Lib.hid (HIV.out.withinPut hgU hmU)
                    refine wpAnyH_ready (rs := [17]) (by kernel_rfl) (by simp) ?_
                    refine AllReadyH.cons (o := _) rfl (fun K hK => ?_) AllReadyH.nil
                    go_simp
                    have dU : VU.cell? ⟨N + 2, 3, none⟩ = some (.map (some (N + 1))) := by have := HIU.out.blk.cell 3; simpa using this
                    refine hK.out _ _ dU (fun hHeld => ?_)
                    clear hK K dU hrunW hrunU hmU hgU hHeld
                    try simp only [Act.put, List.setIfInBounds_toArray, List.set_cons_zero, List.set_cons_succ]
                    refine wpAnyH_done (by kernel_rfl) ?_ _
                    go_wp2
                    go_roundw
                    case rel => exact ⟨j + 1, _, _, by omega, by go_num, HIU.out, by omega⟩
                    case measure => simp [intOf]; omega
                  | false =>
                    refine wpAnyH_takeD (i := 11) (d := some 94) (v := ?_) rfl rfl (by kernel_rfl) (by kernel_rfl) (by kernel_rfl) (fun _ _ _ h => h) (Or.inl ⟨by rfl, ?_⟩) (by assumption) ?_
                    rotate_left
                    · intro w hSw; (try dsimp only at hSw); go_simp; all_goals (with_reducible rfl)
                    simp only [Act.put, List.setIfInBounds_toArray, List.set_cons_zero, List.set_cons_succ]
                    refine wpAnyH_takeD (i := 12) (d := some 95) (v := ?_) rfl rfl (by kernel_rfl) (by kernel_rfl) (by kernel_rfl) (fun _ _ _ h => h) (Or.inl ⟨by rfl, ?_⟩) (by assumption) ?_
                    rotate_left
                    · intro w hSw; (try dsimp only at hSw); go_simp; all_goals (with_reducible rfl)
                    simp only [Act.put, List.setIfInBounds_toArray, List.set_cons_zero, List.set_cons_succ]
                    refine wpAnyH_takeD (i := 13) (d := some 96) (v := ?_) rfl rfl (by kernel_rfl) (by kernel_rfl) (by kernel_rfl) (fun _ _ _ h => h) (Or.inl ⟨by rfl, ?_⟩) (by assumption) ?_
                    rotate_left
                    · intro w hSw; (try dsimp only at hSw); go_simp; all_goals (with_reducible rfl)
                    simp only [Act.put, List.setIfInBounds_toArray, List.set_cons_zero, List.set_cons_succ]
                    refine wpAnyH_ready (rs := [14]) (by kernel_rfl) (by simp) ?_
                    refine AllReadyH.cons (o := _) rfl (fun K hK => ?_) AllReadyH.nil
                    go_simp
                    refine (HC.out.call _ ?bel _).mono ?_
                    case bel => rw [hN]; exact HIV.out.bel
                    rintro e w9 ⟨rfl, hb9⟩
                    go_wp2_with fail
                    have HI9' := Lib.hid (HIV.out.below hb9 (by have := HIV.out.big; omega))
                    have d9 : w9.cell? ⟨N + 2, 3, none⟩ = some (.map (some (N + 1))) := by have := HI9'.out.blk.cell 3; simpa using this
                    refine hK.out _ _ d9 (fun hHeld => ?_)
                    clear hK K hrunW HIV
                    try simp only [Act.put, List.setIfInBounds_toArray, List.set_cons_zero, List.set_cons_succ]
                    refine wpAnyH_takeD (i := 15) (d := some 98) (v := ?_) rfl rfl (by kernel_rfl) (by kernel_rfl) (by kernel_rfl) (fun _ _ _ h => h) (Or.inl ⟨by rfl, ?_⟩) (by assumption) ?_
                    rotate_left
                    · intro w hSw; (try dsimp only at hSw); go_simp; all_goals (with_reducible rfl)
                    simp only [Act.put, List.setIfInBounds_toArray, List.set_cons_zero, List.set_cons_succ]
                    refine wpAnyH_takeD (i := 16) (d := some 99) (v := ?_) rfl rfl (by kernel_rfl) (by kernel_rfl) (by kernel_rfl) (fun _ _ _ h => h) (Or.inl ⟨by rfl, ?_⟩) (by assumption) ?_
                    rotate_left
                    · intro w hSw; (try dsimp only at hSw); go_simp; all_goals (with_reducible rfl)
                    simp only [Act.put, List.setIfInBounds_toArray, List.set_cons_zero, List.set_cons_succ]
                    obtain ⟨VU, hrunU, hmU, hgU⟩ := HI9'.out.wm.update (Maps.int_keyed Tryd.underlying21) Tryd.underlying135 (by unfold maxLen; have := HNW.out; omega) HKY.out (plainElem_bool (H := Unit) Tryd.underlying4 (cls y == 0))
                    have HIU := Lib.hid (HI9'.out.withinPut hgU hmU)
                    refine wpAnyH_ready (rs := [17]) (by kernel_rfl) (by simp) ?_
                    refine AllReadyH.cons (o := _) rfl (fun K hK => ?_) AllReadyH.nil
                    go_simp
                    have dU : VU.cell? ⟨N + 2, 3, none⟩ = some (.map (some (N + 1))) := by have := HIU.out.blk.cell 3; simpa using this
                    refine hK.out _ _ dU (fun hHeld => ?_)
                    clear hK K dU hrunU hmU hgU hHeld d9
                    try simp only [Act.put, List.setIfInBounds_toArray, List.set_cons_zero, List.set_cons_succ]
                    refine wpAnyH_done (by kernel_rfl) ?_ _
                    go_wp2
                    go_roundw
                    case rel => exact ⟨j + 1, _, _, by omega, by go_num, HIU.out, by omega⟩
                    case measure => simp [intOf]; omega
                · have j1 : ¬ j < k.length - 1 := by omega
                  go_wp2
                  go_roundw
                  case rel => exact ⟨i + 1, _, _, _, nw2, Dw2, _, by omega, by go_num, HIW.out, by have := HNW.out; omega, HSEEN.out⟩
                  case measure => simp [intOf]; omega
      · have hne : (wrongE k == 0) = false := by simpa using he
        go_wp2
        go_ret2
        exact ⟨_, _, rfl, .inr ⟨he, rfl, fun h => he (by have := h.at hlt; rw [HK.out] at this; exact this)⟩, by rw [hN]; exact HI1.out.bel⟩
    · have i1 : ¬ (i : Int) < (keys.length : Int) := by omega
      have HIZ := Lib.hid hI; clear hI
      go_wp2
      go_ret2
      exact ⟨_, _, rfl, .inl ⟨rfl, _, rfl⟩, by first | exact HIZ.out.bel | (rw [hN]; exact HIZ.out.bel)⟩

end Go.Proofs.YtplobpelhcagpaaDoor
