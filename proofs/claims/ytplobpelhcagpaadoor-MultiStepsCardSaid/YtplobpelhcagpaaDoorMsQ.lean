/-
  Multi: charset.New.
-/
import Derived.Test.YtplobpelhcagpaaDoorMsP
import Derived.Test.YtplobpelhcagpaaDoorLibT
namespace Go.Proofs.YtplobpelhcagpaaDoor
open Go.RowKit Go.Shelf Pl14

abbrev smallV : Value := .iface 85 (.agg #[])
/-- what New holds while it goes over the rows -/
structure LI (w : World) (rs : List MRow) (out : Value) (tm hm cb am : Nat) (s9 : Value) (i : Nat) (ks : List Keyed) (n : Nat) (D : DataW Unit) (psi : List CT) (wr : World) : Prop where
  cs : CsI cb tm hm (.pointer none) smallV out (.slice none 0 0) (.slice none 0 0) psi (headB psi) (2000 * i) wr
  ni : NI (am + 1) am s9 ks n D wr
  bel : Below w.heap.size w wr
  own : OwnM w.heap.size wr out rs
  outlt : ∀ j, out.ownBlock = some j → j < tm
  ord : w.heap.size ≤ tm ∧ tm < hm ∧ hm < cb ∧ cb < am
section
variable {w : World} {rs : List MRow} {out s9 : Value} {tm hm cb am i n : Nat} {ks : List Keyed} {D : DataW Unit} {psi : List CT} {wr w' : World}
theorem LI.below (h : LI w rs out tm hm cb am s9 i ks n D psi wr) (hb : Below wr.heap.size wr w') : LI w rs out tm hm cb am s9 i ks n D psi w' :=
  ⟨h.cs.below hb, h.ni.below hb, h.bel.trans (hb.mono h.bel.size), ownsRow_below h.own hb rfl, h.outlt, h.ord⟩
/-- a row is taken -/
theorem LI.took (h : LI w rs out tm hm cb am s9 i ks n D psi wr) {psi' : List CT} (hk : Keep (fun j => j = tm ∨ j = hm) wr w') (hc : CsI cb tm hm (.pointer none) smallV out (.slice none 0 0) (.slice none 0 0) psi' (headB psi') (2000 * i + 2000) w') : LI w rs out tm hm cb am s9 (i + 1) ks n D psi' w' := by
  obtain ⟨h1, h2, h3, h4⟩ := h.ord
  exact ⟨hc, h.ni.keep hk (fun j e => by omega), h.bel.trans (hk.below h.bel.size (fun j e => by omega)), ownsRow_keepN h.own hk (fun j e hj => by have := h.outlt j e; omega), h.outlt, h.ord⟩
end
theorem ownsRow_low {w w' : World} {B e sz n N : Nat} {v : Value} {xs : List Value} (h : w.ownsRow B e sz v n xs) (hb : Below N w w') (hl : ∀ j, v.ownBlock = some j → j < N) : w'.ownsRow B e sz v n xs := by
  refine ⟨h.1, ?_⟩
  rcases h.2 with h2 | ⟨g, cap, cur, rfl, hB, hg, hnc, hcm, hcs, htk⟩
  · exact .inl h2
  · exact .inr ⟨g, cap, cur, rfl, hB, (hb.block g (hl g rfl)).trans hg, hnc, hcm, hcs, htk⟩
theorem LI.above {w : World} {rs : List MRow} {out s9 s9' : Value} {tm hm cb am i n n' : Nat} {ks ks' : List Keyed} {D D' : DataW Unit} {psi : List CT} {wr w' : World} (h : LI w rs out tm hm cb am s9 i ks n D psi wr) (hb : Below am wr w') (hni : NI (am + 1) am s9' ks' n' D' w') : LI w rs out tm hm cb am s9' i ks' n' D' psi w' := by
  obtain ⟨h1, h2, h3, h4⟩ := h.ord
  exact ⟨h.cs.low hb h4 (by omega) (by omega), hni, h.bel.trans (hb.mono (by omega)), ownsRow_low h.own hb (fun j e => by have := h.outlt j e; omega), h.outlt, h.ord⟩
theorem wpList_appendN {P : Program} {t e : TypeId} {z : Value} {size bytes : Nat} (E : ElemN P t e z size bytes) {w : World} {ops : Array Oper} {rest : List Oper} {o : Oper} {a : Act} {Q : Exit → Act → World → Prop} (hgd : o.guard = none) (s x : Operand)
    (ho : o.op = .call { callee := .builtin .append, args := #[s, x], argTypes := #[t, t] }) (base : Nat) (v : Value) (n : Nat) (xs : List Value) (hs : a.eval s = v) (hown : w.ownsRow base e size v n xs)
    (p : Nat) (cs : Array Value) (T : TypeId) (hp : Blk w p cs T) (hx : a.eval x = .slice (some ⟨p, 0, none⟩) 1 1) (hl : cs.toList.length = size) (h1 : ∀ u ∈ cs.toList, u.oneCell' = true) (hbytes : (n + 1) * bytes ≤ 140737488355328) (hn : n ≤ 140737488355328) (hbase : base ≤ w.heap.size)
    (h : ∀ g cap w', w'.ownsRow base e size (.slice (some ⟨g, 0, none⟩) (n + 1) cap) (n + 1) (xs ++ cs.toList) → w.grownBy w' v.ownBlock → wpList P ops Q rest (a.put o.dst (.slice (some ⟨g, 0, none⟩) (n + 1) cap)) w') : wpList P ops Q (o :: rest) a w := by
  obtain ⟨i, hi, hz, hsz, hby⟩ := E.hi
  exact wpList_append_lies w hgd s x t ho base e i z size bytes E.ht hi hz hsz hby E.hz E.hs v n xs hs hown ⟨p, 0, none⟩ 1 1 cs.toList hx (by rw [hl, Nat.one_mul]) (World.news_of_block hp) h1 (by omega) (by unfold maxLen; omega) hbytes hbase _ rfl (fun g cap w' h2 h3 _ _ => h g cap w' h2 h3)
theorem keyedE : ElemN Tryd.prog 74 80 (.agg #[.slice none 0 0, .string ⟨#[]⟩, .string ⟨#[]⟩, .int .i64 0]) 4 64 := ElemN.mk' Tryd.underlying74 rfl (by decide) (by kernel_rfl)
/-- what New holds while it goes over the keys -/
structure LJ (w : World) (rs : List MRow) (out : Value) (tm hm cb am : Nat) (sv : Value) (ks : List Keyed) (n : Nat) (D : DataW Unit) (psi : List CT) (B : Nat) (c5 c6 v5 : Value) (m5 : Nat) (x5 : List Value) (v6 : Value) (m6 : Nat) (x6 : List Value) (W : World) : Prop where
  cs : CsI cb tm hm (.pointer none) smallV out c5 c6 psi (headB psi) B W
  ni : NI (am + 1) am sv ks n D W
  bel : Below w.heap.size w W
  own : OwnM w.heap.size W out rs
  outlt : ∀ j, out.ownBlock = some j → j < tm
  ord : w.heap.size ≤ tm ∧ tm < hm ∧ hm < cb ∧ cb < am
  r5 : W.ownsRow (am + 1) 75 1 v5 m5 x5
  r6 : W.ownsRow (am + 1) 9 1 v6 m6 x6
theorem NI.grown {BB am n : Nat} {sv : Value} {ks : List Keyed} {D : DataW Unit} {wr w' : World} (h : NI BB am sv ks n D wr) {e m : Nat} {v : Value} {xs : List Value} (hr : wr.ownsRow BB e 1 v m xs) (he : e ≠ 80 ∧ e ≠ 21) (hg : wr.grownBy w' v.ownBlock) : NI BB am sv ks n D w' where
  row := World.ownsRow.kept h.row hg (rows_ne h.row hr (Ne.symm he.1))
  keys := fun k hk => World.ownsRow.kept (h.keys k hk) hg (rows_ne (h.keys k hk) hr (Ne.symm he.2))
  good := h.good
  map := h.map.kept hg (fun e' => by have := (World.ownsRow.lt hr am e'.symm).1; have := h.low; omega)
  nle := h.nle
  has := h.has
  at_ := h.at_
  dist := h.dist
  low := h.low
  big := Nat.le_trans h.big hg.size
section
variable {w : World} {rs : List MRow} {out sv : Value} {tm hm cb am n : Nat} {ks : List Keyed} {D : DataW Unit} {psi : List CT} {B : Nat} {c5 c6 v5 v6 : Value} {m5 m6 : Nat} {x5 x6 : List Value} {W W' : World}
theorem LJ.below (h : LJ w rs out tm hm cb am sv ks n D psi B c5 c6 v5 m5 x5 v6 m6 x6 W) (hb : Below W.heap.size W W') : LJ w rs out tm hm cb am sv ks n D psi B c5 c6 v5 m5 x5 v6 m6 x6 W' :=
  ⟨h.cs.below hb, h.ni.below hb, h.bel.trans (hb.mono h.bel.size), ownsRow_below h.own hb rfl, h.outlt, h.ord, ownsRow_below h.r5 hb rfl, ownsRow_below h.r6 hb rfl⟩
theorem LJ.big (h : LJ w rs out tm hm cb am sv ks n D psi B c5 c6 v5 m5 x5 v6 m6 x6 W) : am + 1 ≤ W.heap.size := h.ni.big
theorem LJ.app5 (h : LJ w rs out tm hm cb am sv ks n D psi B c5 c6 v5 m5 x5 v6 m6 x6 W) {v' : Value} {m' : Nat} {x' : List Value} (hg : W.grownBy W' v5.ownBlock) (hr : W'.ownsRow (am + 1) 75 1 v' m' x') : LJ w rs out tm hm cb am sv ks n D psi B c5 c6 v' m' x' v6 m6 x6 W' := by
  obtain ⟨h1, h2, h3, h4⟩ := h.ord
  have hba : Below am W W' := (Below.refl am W).grown hg (by have := h.big; omega) (fun k e => by have := (World.ownsRow.lt h.r5 k e).1; omega)
  exact ⟨h.cs.low hba h4 (by omega) (by omega), h.ni.grown h.r5 (by decide) hg, h.bel.trans (hba.mono (by omega)), ownsRow_low h.own hba (fun j e => by have := h.outlt j e; omega), h.outlt, h.ord, hr, World.ownsRow.kept h.r6 hg (rows_ne h.r6 h.r5 (by decide))⟩
theorem LJ.app6 (h : LJ w rs out tm hm cb am sv ks n D psi B c5 c6 v5 m5 x5 v6 m6 x6 W) {v' : Value} {m' : Nat} {x' : List Value} (hg : W.grownBy W' v6.ownBlock) (hr : W'.ownsRow (am + 1) 9 1 v' m' x') : LJ w rs out tm hm cb am sv ks n D psi B c5 c6 v5 m5 x5 v' m' x' W' := by
  obtain ⟨h1, h2, h3, h4⟩ := h.ord
  have hba : Below am W W' := (Below.refl am W).grown hg (by have := h.big; omega) (fun k e => by have := (World.ownsRow.lt h.r6 k e).1; omega)
  exact ⟨h.cs.low hba h4 (by omega) (by omega), h.ni.grown h.r6 (by decide) hg, h.bel.trans (hba.mono (by omega)), ownsRow_low h.own hba (fun j e => by have := h.outlt j e; omega), h.outlt, h.ord, World.ownsRow.kept h.r5 hg (rows_ne h.r5 h.r6 (by decide)), hr⟩
/-- a field of the charset is written -/
theorem LJ.set (h : LJ w rs out tm hm cb am sv ks n D psi B c5 c6 v5 m5 x5 v6 m6 x6 W) (i : Nat) (v : Value) (d5 d6 : Value) (hv : (#[.pointer none, smallV, out, .map (some tm), .map (some hm), c5, c6] : Array Value).setIfInBounds i v = #[.pointer none, smallV, out, .map (some tm), .map (some hm), d5, d6]) :
    LJ w rs out tm hm cb am sv ks n D psi B d5 d6 v5 m5 x5 v6 m6 x6 (W.setCell ⟨cb, i, none⟩ v) := by
  obtain ⟨h1, h2, h3, h4⟩ := h.ord
  have hk : Keep (fun j => j = cb) W (W.setCell ⟨cb, i, none⟩ v) := Keep.of_setCell _ _ _ _
  obtain ⟨nt, D1, hn, hD, hT⟩ := h.cs.tex
  obtain ⟨nh, D2, hn2, hD2, hT2⟩ := h.cs.hea
  obtain ⟨es, cl, he, hr⟩ := hD
  obtain ⟨es2, cl2, he2, hr2⟩ := hD2
  refine ⟨⟨by rw [← hv]; exact h.cs.blk.set i v, ⟨nt, D1, hn, ⟨es, cl, (hk.block tm (Array.getElem?_eq_some_iff.1 he).1 (by omega)).trans he, hr⟩, hT⟩, ⟨nh, D2, hn2, ⟨es2, cl2, (hk.block hm (Array.getElem?_eq_some_iff.1 he2).1 (by omega)).trans he2, hr2⟩, hT2⟩, h.cs.ne⟩,
    h.ni.keep hk (fun j e => by omega), h.bel.trans (hk.below h.bel.size (fun j e => by omega)), ownsRow_keepN h.own hk (fun j e hj => by have := h.outlt j e; omega), h.outlt, h.ord, ownsRow_keepN h.r5 hk (fun j e hj => by have := (World.ownsRow.lt h.r5 j e).1; omega), ownsRow_keepN h.r6 hk (fun j e hj => by have := (World.ownsRow.lt h.r6 j e).1; omega)⟩
end
theorem NI.rdRows {BB am n m : Nat} {sv v5 : Value} {ks : List Keyed} {D : DataW Unit} {W : World} (h : NI BB am sv ks n D W) (hm : m = ks.length) {x5 : List Value} (hx : x5 = ks.map (·.1)) (hr : W.ownsRow BB 75 1 v5 m x5) : RdRows W v5 (ks.map (·.2.1)) := by
  subst hm
  subst hx
  obtain ⟨a, cap, rfl, h1, h2, h3⟩ := ownsRow_shapeN hr
  refine ⟨⟨a, cap, by rw [List.length_map], by rw [List.length_map]; exact h1, h2⟩, fun j hj => ?_⟩
  rw [List.length_map] at hj
  rcases h3 with ⟨rfl, rfl, h0⟩ | ⟨g, rfl, _⟩
  · omega
  · have hc := World.ownsRow.cells hr (g := g) rfl j (ks[j]).1 (by simp [hj])
    have e : (⟨g, 0, none⟩ : Addr).add j = ⟨g, 0 + j, none⟩ := by unfold Addr.add; split <;> simp_all
    rw [e] at hc
    refine ⟨g, 0, cap, (ks[j]).1, by rw [List.length_map], hc, ?_⟩
    have := (h.keys ks[j] (List.getElem_mem hj)).rd
    have e2 : (ks.map (·.2.1)).getD j [] = (ks[j]).2.1 := by simp [List.getD_eq_getElem?_getD, hj]
    rw [e2]
    exact this
theorem rdS_of {BB m : Nat} {v6 : Value} {ks : List Keyed} {W : World} (hm : m = ks.length) {x6 : List Value} (hx : x6 = ks.map (fun k => Value.string k.2.2.1)) (hr : W.ownsRow BB 9 1 v6 m x6) : RdS W v6 (ks.map (·.2.2.1)) := by
  subst hm
  subst hx
  obtain ⟨a, cap, rfl, h1, h2, h3⟩ := ownsRow_shapeN hr
  refine ⟨a, cap, by rw [List.length_map], by rw [List.length_map]; exact h1, h2, ?_, ?_⟩
  · intro ha
    subst ha
    rcases h3 with ⟨_, _, h0⟩ | ⟨g, h, _⟩
    · rw [List.eq_nil_of_length_eq_zero h0]; rfl
    · cases h
  · rcases h3 with ⟨_, _, h0⟩ | ⟨g, rfl, _⟩
    · left; rw [List.eq_nil_of_length_eq_zero h0]; rfl
    · right
      refine ⟨g, 0, rfl, fun j hj => ?_⟩
      rw [List.length_map] at hj
      have hc := World.ownsRow.cells hr (g := g) rfl j (.string (ks[j]).2.2.1) (by simp [hj])
      have e : (⟨g, 0, none⟩ : Addr).add j = ⟨g, 0 + j, none⟩ := by unfold Addr.add; split <;> simp_all
      rw [e] at hc
      rw [hc]
      simp [List.getD_eq_getElem?_getD, hj]
theorem NI.policyOk {BB am n : Nat} {sv : Value} {ks : List Keyed} {D : DataW Unit} {W : World} (h : NI BB am sv ks n D W) : PolicyOk (ks.map (·.2.2.1)) (ks.map (·.2.1)) := by
  refine ⟨⟨fun k hk => ?_, ?_⟩, by simp, ?_⟩
  · obtain ⟨x, hx, rfl⟩ := List.mem_map.1 hk
    exact (h.good x hx).1
  · exact List.pairwise_map.2 h.dist
  · cases hc : Lib.containsS (ks.map (·.2.2.1)) ⟨#[]⟩ with
    | false => rfl
    | true =>
      obtain ⟨x, hx, he⟩ := List.mem_map.1 ((Lib.containsS_iff _ _).1 hc)
      exact absurd (by rw [he]; rfl) (h.good x hx).2.2
theorem keysE : ElemN Tryd.prog 70 75 (.slice none 0 0) 1 24 := ElemN.mk' Tryd.underlying70 rfl (by decide) (by kernel_rfl)
theorem strE : ElemN Tryd.prog 23 9 (.string ⟨#[]⟩) 1 16 := ElemN.mk' Tryd.underlying23 rfl (by decide) (by kernel_rfl)
theorem RowsFrom.cons {ps : List CT} {rs : List MRow} {i : Nat} {c t : ByteArray} {fl : Int} (hi : i < rs.length) (hr : rs.getD i mr0 = (c, t, fl)) : (RowsFrom ps (rs.drop i) ↔ RowOk ps c t fl ∧ RowsFrom (rowPs ps c t fl) (rs.drop (i + 1))) ∧ psFrom ps (rs.drop i) = psFrom (rowPs ps c t fl) (rs.drop (i + 1)) := by
  have e : rs[i] = (c, t, fl) := by rw [← hr]; simp [List.getD_eq_getElem?_getD, hi]
  rw [List.drop_eq_getElem_cons hi, e]
  exact ⟨Iff.rfl, rfl⟩

set_option maxRecDepth 100000 in
set_option maxHeartbeats 16000000 in
theorem charNew_any (vl : Value) (rs : List MRow) (w : World) (hl : RdM w vl rs) (hT : TabsAt w) (hn : rs.length ≤ 1000) (hsz : ∀ r ∈ rs, r.2.1.size ≤ 300000) :
    Calls Tryd.prog 12 #[smallV, vl] w fun e w' => ∃ p at_ er, e = .returned (.tuple #[p, .int .i64 at_, .int .i64 er]) ∧
      ((er = 0 ∧ RowsOk rs ∧ ∃ cb tm hm c0 c2 c5 c6 B, p = .pointer (some ⟨cb, 0, none⟩) ∧ CsI cb tm hm c0 smallV c2 c5 c6 (psOf rs) (headB (psOf rs)) B w' ∧ OwnM w.heap.size w' c2 rs) ∨
       (er ≠ 0 ∧ p = .pointer none ∧ ¬ RowsOk rs)) ∧ Below w.heap.size w w' := by
  have HL := Lib.hid hl
  have HT := Lib.hid hT; clear hT
  have HSZ := Lib.hid hsz; clear hsz
  obtain ⟨sa, scap, rfl, hs1, hs2, -, -⟩ := hl
  obtain ⟨N, hN⟩ : ∃ n, rs.length = n := ⟨_, rfl⟩
  rw [hN] at hs1 hn HL ⊢
  have HN := Lib.hid hN; clear hN
  have hmm := @run_makeMap Tryd.prog
  go_enter Tryd.func12, Tryd.ntmps12
  go_wp2_with fail
  refine (cloneM_any _ rs w HL.out (by rw [HN.out]; omega)).mono ?_
  rintro e W1 ⟨out, rfl, ho1, hb1⟩
  obtain ⟨oa, oc, hout, -⟩ := ownsRow_shapeN ho1
  rw [HN.out] at hout
  subst hout
  obtain ⟨tm, htm⟩ : ∃ q, W1.heap.size = q := ⟨_, rfl⟩
  obtain ⟨hm, hhm⟩ : ∃ q, tm + 1 = q := ⟨_, rfl⟩
  obtain ⟨cb, hcb⟩ : ∃ q, hm + 1 = q := ⟨_, rfl⟩
  obtain ⟨am, ham⟩ : ∃ q, cb + 1 = q := ⟨_, rfl⟩
  obtain ⟨W5, hW5⟩ : ∃ W, ((((W1.alloc (.map #[] 0)).alloc (.map #[] 0)).alloc (.cells #[.pointer none, smallV, .slice oa N oc, .map (some tm), .map (some hm), .slice none 0 0, .slice none 0 0] 72)).alloc (.map #[] 0)) = W := ⟨_, rfl⟩
  have hLI : LI w rs (.slice oa N oc) tm hm cb am (.slice none 0 0) 0 [] 0 (.map []) [] W5 := by
    have hord : hm = tm + 1 ∧ cb = tm + 2 ∧ am = tm + 3 := by omega
    have s1 : (W1.alloc (.map #[] 0)).heap.size = hm := by rw [← hhm, ← htm]; simp
    have s2 : ((W1.alloc (.map #[] 0)).alloc (.map #[] 0)).heap.size = cb := by rw [← hcb, ← hhm, ← htm]; simp
    have s3 : (((W1.alloc (.map #[] 0)).alloc (.map #[] 0)).alloc (.cells #[.pointer none, smallV, .slice oa N oc, .map (some tm), .map (some hm), .slice none 0 0, .slice none 0 0] 72)).heap.size = am := by rw [← ham, ← hcb, ← hhm, ← htm]; simp
    have hbl := Blk.new ((W1.alloc (.map #[] 0)).alloc (.map #[] 0)) #[.pointer none, smallV, .slice oa N oc, .map (some tm), .map (some hm), .slice none 0 0, .slice none 0 0] 72
    rw [s2] at hbl
    have m1 := World.ownsMap_made W1 Tryd.prog 9 (plainElem (H := Unit) Tryd.prog 9)
    rw [htm] at m1
    have m2 := World.ownsMap_made (W1.alloc (.map #[] 0)) Tryd.prog 9 (plainElem (H := Unit) Tryd.prog 4)
    rw [s1] at m2
    have m3 := World.ownsMap_made (((W1.alloc (.map #[] 0)).alloc (.map #[] 0)).alloc (.cells #[.pointer none, smallV, .slice oa N oc, .map (some tm), .map (some hm), .slice none 0 0, .slice none 0 0] 72)) Tryd.prog 9 (plainElem (H := Unit) Tryd.prog 3)
    rw [s3] at m3
    have g2 := World.grownBy_alloc (W1.alloc (.map #[] 0)) (.map #[] 0) none
    have g3 := World.grownBy_alloc ((W1.alloc (.map #[] 0)).alloc (.map #[] 0)) (.cells #[.pointer none, smallV, .slice oa N oc, .map (some tm), .map (some hm), .slice none 0 0, .slice none 0 0] 72) none
    have g4 := World.grownBy_alloc (((W1.alloc (.map #[] 0)).alloc (.map #[] 0)).alloc (.cells #[.pointer none, smallV, .slice oa N oc, .map (some tm), .map (some hm), .slice none 0 0, .slice none 0 0] 72)) (.map #[] 0) none
    rw [hW5] at g4 m3
    have hb15 : Below W1.heap.size W1 W5 := by rw [← hW5]; exact ((((Below.refl _ _).alloc (Nat.le_refl _) _).alloc (by omega) _).alloc (by omega) _).alloc (by omega) _
    have hwt : w.heap.size ≤ tm := by rw [← htm]; exact hb1.size
    have hs5 : W5.heap.size = am + 1 := by rw [← hW5, ← ham, ← hcb, ← hhm, ← htm]; simp
    refine ⟨⟨hbl.grown g4 (by simp), ⟨0, _, Nat.le_refl _, ((m1.kept g2 (by simp)).kept g3 (by simp)).kept g4 (by simp), TextsAre.start⟩, ⟨0, _, Nat.le_refl _, (m2.kept g3 (by simp)).kept g4 (by simp), HeadsAre.start⟩, by omega⟩, ?_, hb1.trans (hb15.mono hb1.size), ownsRow_below ho1 hb15 rfl, fun j e => by have := (World.ownsRow.lt ho1 j e).2; omega, by omega⟩
    exact ⟨World.ownsRow_nil _ _ _ _, by simp, by simp, m3, Nat.le_refl _, fun s => by simp [Maps.has], fun s hs => by simp [Maps.has] at hs, List.Pairwise.nil, by omega, by omega⟩
  have HLI := Lib.hid hLI; clear hLI
  have HORD := Lib.hid (show hm = tm + 1 ∧ cb = tm + 2 ∧ am = tm + 3 from by omega)
  have HB1 := Lib.hid hb1; clear hb1
  clear ho1
  go_wp2
  go_loopw [9, 37] (fun s9 s37 wr => ∃ (i : Nat) (ks : List Keyed) (n : Nat) (D : DataW Unit) (psi : List CT), s37 = .int .i64 i ∧ i ≤ N ∧ LI w rs (.slice oa N oc) tm hm cb am s9 i ks n D psi wr ∧ ks.length ≤ i ∧ (RowsFrom [] rs ↔ RowsFrom psi (rs.drop i)) ∧ psFrom [] rs = psFrom psi (rs.drop i)) (fun _ s37 _ => N - (intOf s37).toNat)
  case atStart => exact ⟨0, [], 0, .map [], [], rfl, Nat.zero_le _, HLI.out, Nat.le_refl _, by simp, by simp⟩
  case round =>
    obtain ⟨i, ks, n, D, psi, rfl, hi, hLI, hks, hro, hps⟩ := hrel
    have HL1 := Lib.hid hLI; clear hLI
    have HRO := Lib.hid hro; clear hro
    have HPS := Lib.hid hps; clear hps
    obtain ⟨sv, hsv⟩ : ∃ v, u9 = v := ⟨_, rfl⟩
    rw [hsv] at HL1 ⊢
    clear hsv u9 hW5 htm hhm hcb ham
    obtain ⟨ka, kc, hsv2, hkc, -, hka⟩ := ownsRow_shapeN HL1.out.ni.row
    obtain ⟨M, hM⟩ : ∃ m, ks.length = m := ⟨_, rfl⟩
    rw [hM] at hsv2 hks hkc hka
    subst hsv2
    have HM := Lib.hid hM; clear hM
    have HKA := Lib.hid hka; clear hka
    by_cases hlt : i < N
    · have i0 : (0 : Int) ≤ (i : Int) := by omega
      have i1 : (i : Int) < (N : Int) := by omega
      have hip : i < rs.length := by have := HN.out; omega
      obtain ⟨⟨c, t, fl⟩, hr⟩ : ∃ r, rs.getD i mr0 = r := ⟨_, rfl⟩
      have hne : rs ≠ [] := fun h => by rw [h] at hip; simp at hip
      obtain ⟨b1, o1, rfl⟩ : ∃ b o, sa = some ⟨b, o, none⟩ := by
        obtain ⟨a', c', e', _, _, _, h3⟩ := HL.out
        cases e'
        rcases h3 with h3 | ⟨b, o, h3, _⟩
        · exact absurd h3 hne
        · exact ⟨b, o, h3⟩
      obtain ⟨c1, c2, c3⟩ := (HL.out.mono HL1.out.bel rfl).cells hip
      rw [hr] at c1 c2 c3
      simp only at c1 c2 c3
      have HROW := Lib.hid (RowsFrom.cons (ps := psi) hip hr)
      have htsz : t.size ≤ 300000 := by
        have := HSZ.out (rs.getD i mr0) (by rw [List.getD_eq_getElem?_getD, List.getElem?_eq_getElem hip]; exact List.getElem_mem hip)
        rw [hr] at this
        exact this
      have HTSZ := Lib.hid htsz; clear htsz
      clear hr hne hip
      go_wp2_with fail
      obtain ⟨rb, hrb⟩ : ∃ q, wr.heap.size = q := ⟨_, rfl⟩
      obtain ⟨W2, hW2⟩ : ∃ W, wr.alloc (.cells #[.string c, .string t, .int .i64 fl] 47) = W := ⟨_, rfl⟩
      have hx2 : Blk W2 rb #[.string c, .string t, .int .i64 fl] 47 := by rw [← hW2, ← hrb]; exact Blk.new _ _ _
      have HX2 := Lib.hid hx2; clear hx2
      have HL2 := Lib.hid (HL1.out.below (show Below wr.heap.size wr W2 by rw [← hW2]; exact (Below.refl _ _).alloc (Nat.le_refl _) _))
      have hrbs : am < rb := by have := HL1.out.ni.big; omega
      rw [hW2]
      try rw [hrb]
      clear hW2 hrb c1 c2 c3 HL1
      refine (row_any cb tm hm (2000 * i) _ _ _ _ psi c t fl W2 HL2.out.cs (HT.out.below HL2.out.bel rfl) (by omega) HTSZ.out).mono ?_
      rintro e W3 ⟨kv, er, rfl, hor, hk3⟩
      have hne3 : ¬ (rb = tm ∨ rb = hm) := by have := HL2.out.ord; omega
      have HX3 := Lib.hid (HX2.out.keep hk3 hne3)
      rcases hor with ⟨rfl, hok, hown, hcs⟩ | ⟨hne, hno⟩
      · have HL3 := Lib.hid (HL2.out.took hk3 hcs)
        have hs2 : am < W2.heap.size := by have := HX2.out.lt; omega
        have HO3 := Lib.hid (hown.mono (B' := am + 1) (fun j e => by have := (hown.lt j e).1; omega))
        have HRO2 := Lib.hid (show (RowsFrom [] rs ↔ RowsFrom (rowPs psi c t fl) (rs.drop (i + 1))) ∧ psFrom [] rs = psFrom (rowPs psi c t fl) (rs.drop (i + 1)) from by
          refine ⟨HRO.out.trans (HROW.out.1.trans ⟨fun h => h.2, fun h => ⟨hok, h⟩⟩), HPS.out.trans HROW.out.2⟩)
        have HOK := Lib.hid hok
        clear hk3 hcs hown hok HROW HRO HPS hne3 HX2 HL2
        have d2 : W3.cell? ⟨rb, 2, none⟩ = some (.int .i64 fl) := by have := HX3.out.cell 2; simpa using this
        have hkl : (nfdL (runesL t)).length ≤ 18 ∧ 1 ≤ (nfdL (runesL t)).length ∧ c.size ≠ 0 := by
          obtain ⟨h1, h2, _⟩ := HOK.out
          unfold checkE at h1
          by_cases h : c.size < 1 ∨ 4 < c.size ∨ (Lib.runeCount t : Int) < 1 ∨ 18 < (Lib.runeCount t : Int) ∨ Lib.validD t.data.toList = false
          · rw [if_pos h] at h1; cases h1
          · have := nfdL_len_ge (runesL t)
            rw [runesL_len] at this
            omega
        obtain ⟨q, hq⟩ : ∃ q : Nat, i + 1 = q := ⟨_, rfl⟩
        have hsum : IntKind.i64.wrap ((i : Int) + 1) = (q : Int) := by rw [IntWalk.i64_in _ (by omega)]; omega
        have HQ := Lib.hid hq
        rw [hq] at HL3 HRO2
        obtain ⟨kva, kvc, hkv, hkvn⟩ := HO3.out.rd.shape
        obtain ⟨key, hkey⟩ : ∃ k, nfdL (runesL t) = k := ⟨_, rfl⟩
        have HGOOD := Lib.hid (show wrongE key = 0 ∧ (∀ x ∈ key, -2147483648 ≤ x ∧ x ≤ 2147483647) ∧ c.size ≠ 0 from by
          rw [← hkey]
          refine ⟨?_, nfdL_rng t, hkl.2.2⟩
          unfold wrongE
          rw [if_neg (by omega)]
          unfold nfdL
          rw [msort_msort, if_pos rfl])
        rw [hkey] at HO3 hkl hkv hkvn
        have hkne : key ≠ [] := fun h => by rw [h] at hkl; simp at hkl
        obtain ⟨kn, hkn⟩ : ∃ n, key.length = n := ⟨_, rfl⟩
        rw [hkn] at hkv
        subst hkv
        have HKNE := Lib.hid hkne
        have HSKS := Lib.hid (show (runesBytes key).size ≤ 100 from by have := runesBytes_size_le key; omega)
        clear hq hkvn hkl hkne
        have HKN := Lib.hid hkn; clear hkn
        by_cases hf3 : fl = 3
        · have e3 : (fl == 3) = true := by simp [hf3]
          clear hf3
          go_wp2
          go_roundw
          case rel => exact ⟨q, ks, n, D, rowPs psi c t fl, rfl, by have := HQ.out; omega, HL3.out, by have := HQ.out; have := HM.out; omega, HRO2.out.1, HRO2.out.2⟩
          case measure => have := HQ.out; simp [intOf]; omega
        · have e3 : (fl == 3) = false := by simp [hf3]
          clear hf3
          have hcv := conv_key HO3.out.rd HKNE.out
          obtain ⟨sk, hsk⟩ : ∃ s, runesBytes key = s := ⟨_, rfl⟩
          rw [hsk] at hcv
          have HSK := Lib.hid (show sk.data.toList = keyB key from by rw [← hsk]; rfl)
          have hsksz : sk.size ≤ 100 := by rw [← hsk]; exact HSKS.out
          have hmk := WideMaps.keyOf_string_mk (P := Tryd.prog) Tryd.underlying9 (s := sk) (by unfold maxLen; omega)
          rw [HSK.out] at hmk
          obtain ⟨x, hlook, hatx⟩ := look_int (w := W3) HL3.out.ni.map (Maps.string_keyed Tryd.underlying9) Tryd.underlying73 Tryd.underlying3 (Tryd.zeroValue3 _) hmk
          clear hsk
          cases hh : Maps.has D (.string (keyB key)) with
          | false =>
            rw [hh] at hlook
            have HVI := Lib.hid (plainElem_int (H := Unit) (P := Tryd.prog) Tryd.underlying3 (a := (M : Int)) (by have h1 : IntKind.i64.min = -9223372036854775808 := rfl; have h2 : IntKind.i64.max = 9223372036854775807 := rfl; simp [Lit.wf, h1, h2]; omega))
            have KS := Lib.hid (Maps.string_keyed (P := Tryd.prog) Tryd.underlying9)
            have hnlt : n < maxLen := by unfold maxLen; have := HL3.out.ni.nle; have := HM.out; omega
            have HMK := Lib.hid hmk
            have HH := Lib.hid hh
            clear hmk hh hatx
            have hrbam : rb ≠ am := by omega
            have HROW3 := Lib.hid (show W3.ownsRow (am + 1) 80 4 (.slice ka M kc) M (ks.flatMap keyC) from by have := HL3.out.ni.row; rw [HM.out] at this; exact this)
            have HKAM := Lib.hid (show (Value.slice ka M kc).ownBlock = none ∨ (Value.slice ka M kc).ownBlock ≠ some am from by
              rcases HKA.out with ⟨rfl, _, _⟩ | ⟨g, rfl, h1, _⟩
              · exact .inl rfl
              · exact .inr (fun e => by have : g = am := by simpa [Value.ownBlock] using e
                                        omega))
            have HBIG3 := Lib.hid (show am + 1 ≤ W3.heap.size from HL3.out.ni.big)
            go_wp2_with (first
              | (at_mapUpdate; refine wpList_mapUpdate_own _ rfl _ _ _ 73 rfl 9 3 KS.out Tryd.underlying73 (plainElem Tryd.prog 3) am n D rfl HL3.out.ni.map hnlt _ _ _ rfl rfl HMK.out _ [] HVI.out ?_; intro w4 hm4 hg4
                 have HX4 := Lib.hid (HX3.out.grown hg4 (by simpa using hrbam))
                 have c0 : w4.cell? ⟨rb, 0, none⟩ = some (.string c) := by have := HX4.out.cell 0; simpa using this
                 have c1 : w4.cell? ⟨rb, 1, none⟩ = some (.string t) := by have := HX4.out.cell 1; simpa using this
                 have c2 : w4.cell? ⟨rb, 2, none⟩ = some (.int .i64 fl) := by have := HX4.out.cell 2; simpa using this
                 obtain ⟨W5, hW5, hp5⟩ : ∃ W, w4.alloc (.cells #[.slice kva kn kvc, .string c, .string t, .int .i64 fl] 80) = W ∧ Blk W w4.heap.size #[.slice kva kn kvc, .string c, .string t, .int .i64 fl] 80 := ⟨_, rfl, Blk.new _ _ _⟩
                 have hb45 : Below w4.heap.size w4 W5 := by rw [← hW5]; exact (Below.refl _ _).alloc (Nat.le_refl _) _
                 have hr4 := World.ownsRow.kept HROW3.out hg4 HKAM.out
                 have HR5 := Lib.hid (ownsRow_below hr4 hb45 rfl)
                 have HP5 := Lib.hid hp5
                 have HM4 := Lib.hid hm4
                 have HG4 := Lib.hid hg4
                 have HB45 := Lib.hid hb45
                 have HS5 := Lib.hid (show am + 1 ≤ W5.heap.size from by have := HBIG3.out; have := hg4.size; have := hb45.size; omega)
                 clear hr4 hp5 hm4 hg4 hb45)
              | (at_builtin; refine wpList_appendN keyedE rfl _ _ rfl (am + 1) _ M _ rfl HR5.out w4.heap.size _ _ HP5.out rfl rfl (by simp [Value.oneCell']) (by omega) (by omega) HS5.out ?_; intro g6 cap6 w6 hown6 hgr6))
            have hni6 := NI.putKey HL3.out.ni (.slice kva kn kvc) key (c, t, fl) (g := g6) (cap := cap6) HH.out (World.ownsMap.isMap HL3.out.ni.map) (by rw [HM.out]; exact HM4.out) (Keep.weaken (Keep.of_grown HG4.out) (fun j _ e => (Option.some.inj e).symm)) (by rw [HM.out]; exact hown6)
              ((Keep.of_below HB45.out rfl).trans ((Keep.of_grown hgr6).weaken (S' := fun j => (Value.slice ka M kc).ownBlock = some j ∨ w4.heap.size ≤ j) (fun j _ e => .inl e)) (fun _ _ h => h)) HO3.out HGOOD.out
            have hba : Below am W3 w6 := (((Below.refl am W3).grown HG4.out (by have := HL3.out.ni.big; omega) (fun k e => by have := Option.some.inj e; omega)).trans (HB45.out.mono (by have := HL3.out.ni.big; have := HG4.out.size; omega))).grown hgr6 (by have := HS5.out; omega) (fun k e => by have := (World.ownsRow.lt HR5.out k e).1; omega)
            have HL6 := Lib.hid (HL3.out.above hba hni6)
            clear hni6 hba hown6 hgr6
            go_wp2
            go_roundw
            case rel => exact ⟨q, _, _, _, rowPs psi c t fl, rfl, by have := HQ.out; omega, by have := HL6.out; rw [HM.out] at this; exact this, by have := HQ.out; have := HM.out; rw [List.length_append]; simp; omega, HRO2.out.1, HRO2.out.2⟩
            case measure => have := HQ.out; simp [intOf]; omega
          | true =>
            obtain ⟨j, hj, hatj⟩ := HL3.out.ni.at_ _ hh
            obtain rfl : x = (j : Int) := by have := hatx.symm.trans hatj; simpa using this
            rw [hh] at hlook
            obtain ⟨g, rfl⟩ : ∃ g, ka = some ⟨g, 0, none⟩ := by
              rcases HKA.out with ⟨_, _, h0⟩ | ⟨g, h, _⟩
              · have := HM.out; omega
              · exact ⟨g, h⟩
            have hjM : j < M := by have := HM.out; omega
            have j0 : (0 : Int) ≤ (j : Int) := by omega
            have j1 : (j : Int) < (M : Int) := by omega
            obtain ⟨⟨bv, bk, bc, bt, bf⟩, hbk⟩ : ∃ k, ks.getD j k0 = k := ⟨_, rfl⟩
            have hcell : ∀ (o : Nat) (u : Value), o < 4 → (keyC (ks.getD j k0))[o]? = some u → W3.cell? ⟨g, j * 4 + o, none⟩ = some u := by
              intro o u ho hu
              have := World.ownsRow.cells HL3.out.ni.row (g := g) rfl (4 * j + o) u ((keyC_at ks j o hj ho).trans hu)
              have e : (⟨g, 0, none⟩ : Addr).add (4 * j + o) = ⟨g, j * 4 + o, none⟩ := by unfold Addr.add; split <;> simp_all <;> omega
              rw [e] at this; exact this
            rw [hbk] at hcell
            have e1 : W3.cell? ⟨g, j * 4 + 1, none⟩ = some (.string bc) := hcell 1 _ (by decide) rfl
            have e2 : W3.cell? ⟨g, j * 4 + 1 + 1, none⟩ = some (.string bt) := hcell 2 _ (by decide) rfl
            have e3' : W3.cell? ⟨g, j * 4 + 1 + 2, none⟩ = some (.int .i64 bf) := hcell 3 _ (by decide) rfl
            have c0 : W3.cell? ⟨rb, 0, none⟩ = some (.string c) := by have := HX3.out.cell 0; simpa using this
            have c1 : W3.cell? ⟨rb, 1, none⟩ = some (.string t) := by have := HX3.out.cell 1; simpa using this
            have HJ := Lib.hid hj
            clear hcell hbk hatx hatj hh hj hmk
            go_wp2_with fail
            have hS0 : (W3.drew.cell? ⟨rb, 0, none⟩ = some (.string c) ∧ W3.drew.cell? ⟨rb, 1, none⟩ = some (.string t) ∧ W3.drew.cell? ⟨rb, 2, none⟩ = some (.int .i64 fl)) ∧ W3.drew.cell? ⟨g, j * 4 + 1, none⟩ = some (.string bc) ∧ W3.drew.cell? ⟨g, j * 4 + 1 + 1, none⟩ = some (.string bt) ∧ W3.drew.cell? ⟨g, j * 4 + 1 + 2, none⟩ = some (.int .i64 bf) := ⟨⟨c0, c1, d2⟩, e1, e2, e3'⟩
            refine wp_region_held_drew (S := fun w' => (w'.cell? ⟨rb, 0, none⟩ = some (.string c) ∧ w'.cell? ⟨rb, 1, none⟩ = some (.string t) ∧ w'.cell? ⟨rb, 2, none⟩ = some (.int .i64 fl)) ∧ w'.cell? ⟨g, j * 4 + 1, none⟩ = some (.string bc) ∧ w'.cell? ⟨g, j * 4 + 1 + 1, none⟩ = some (.string bt) ∧ w'.cell? ⟨g, j * 4 + 1 + 2, none⟩ = some (.int .i64 bf)) (by kernel_rfl) hS0 (fun hHeld => ?_)
            clear hS0 c0 c1 d2 e1 e2 e3' hlook hcv
            have HL4 := Lib.hid (HL3.out.below (Below.drew (Below.refl W3.heap.size W3)))
            have HX4 := Lib.hid (show Blk W3.drew rb _ _ from HX3.out)
            obtain ⟨W4, hW4⟩ : ∃ W, W3.drew = W := ⟨_, rfl⟩
            rw [hW4] at HL4 HX4 hHeld ⊢
            clear hW4 HL3 HX3
            refine wpAnyH_takeD (i := 0) (d := some 76) (v := ?_) rfl rfl (by kernel_rfl) (by kernel_rfl) (by kernel_rfl) (fun _ _ _ h => h) (Or.inl ⟨by rfl, ?_⟩) (by assumption) ?_
            rotate_left
            · intro w hSw; (try dsimp only at hSw); go_simp; all_goals (with_reducible rfl)
            simp only [Act.put, List.setIfInBounds_toArray, List.set_cons_zero, List.set_cons_succ]
            refine wpAnyH_takeD (i := 1) (d := some 77) (v := ?_) rfl rfl (by kernel_rfl) (by kernel_rfl) (by kernel_rfl) (fun _ _ _ h => h) (Or.inl ⟨by rfl, ?_⟩) (by assumption) ?_
            rotate_left
            · intro w hSw; (try dsimp only at hSw); go_simp; all_goals (with_reducible rfl)
            simp only [Act.put, List.setIfInBounds_toArray, List.set_cons_zero, List.set_cons_succ]
            refine wpAnyH_takeD (i := 2) (d := some 78) (v := ?_) rfl rfl (by kernel_rfl) (by kernel_rfl) (by kernel_rfl) (fun _ _ _ h => h) (Or.inl ⟨by rfl, ?_⟩) (by assumption) ?_
            rotate_left
            · intro w hSw; (try dsimp only at hSw); go_simp; all_goals (with_reducible rfl)
            simp only [Act.put, List.setIfInBounds_toArray, List.set_cons_zero, List.set_cons_succ]
            refine wpAnyH_takeD (i := 3) (d := some 79) (v := ?_) rfl rfl (by kernel_rfl) (by kernel_rfl) (by kernel_rfl) (fun _ _ _ h => h) (Or.inl ⟨by rfl, ?_⟩) (by assumption) ?_
            rotate_left
            · intro w hSw; (try dsimp only at hSw); go_simp; all_goals (with_reducible rfl)
            simp only [Act.put, List.setIfInBounds_toArray, List.set_cons_zero, List.set_cons_succ]
            refine wpAnyH_takeD (i := 4) (d := some 80) (v := ?_) rfl rfl (by kernel_rfl) (by kernel_rfl) (by kernel_rfl) (fun _ _ _ h => h) (Or.inl ⟨by rfl, ?_⟩) (by assumption) ?_
            rotate_left
            · intro w hSw; (try dsimp only at hSw); go_simp; all_goals (with_reducible rfl)
            simp only [Act.put, List.setIfInBounds_toArray, List.set_cons_zero, List.set_cons_succ]
            refine wpAnyH_takeD (i := 5) (d := some 81) (v := ?_) rfl rfl (by kernel_rfl) (by kernel_rfl) (by kernel_rfl) (fun _ _ _ h => h) (Or.inl ⟨by rfl, ?_⟩) (by assumption) ?_
            rotate_left
            · intro w hSw; (try dsimp only at hSw); go_simp; all_goals (with_reducible rfl)
            simp only [Act.put, List.setIfInBounds_toArray, List.set_cons_zero, List.set_cons_succ]
            refine wpAnyH_ready (rs := [6]) (by kernel_rfl) (by simp) ?_
            refine AllReadyH.cons (o := _) rfl (fun K hK => ?_) AllReadyH.nil
            go_simp
            refine (better_any c t bc bt fl bf W4).mono ?_
            rintro e W5 ⟨⟨bb, rfl⟩, hb5⟩
            have HL5 := Lib.hid (HL4.out.below hb5)
            have HX5 := Lib.hid (HX4.out.below hb5 HX4.out.lt)
            have hc5 : ∀ (b o : Nat) (u : Value), W4.cell? ⟨b, o, none⟩ = some u → W5.cell? ⟨b, o, none⟩ = some u := fun b o u h => (hb5.cell (p := ⟨b, o, none⟩) (cell_lt h)).trans h
            have hS5 := And.intro (And.intro (hc5 _ _ _ hHeld.1.1) (And.intro (hc5 _ _ _ hHeld.1.2.1) (hc5 _ _ _ hHeld.1.2.2))) (And.intro (hc5 _ _ _ hHeld.2.1) (And.intro (hc5 _ _ _ hHeld.2.2.1) (hc5 _ _ _ hHeld.2.2.2)))
            clear hc5 hb5 HL4 HX4
            go_wp2_with fail
            refine hK.out _ _ hS5 (fun hHeld => ?_)
            clear hK K
            try simp only [Act.put, List.setIfInBounds_toArray, List.set_cons_zero, List.set_cons_succ]
            refine wpAnyH_done (by kernel_rfl) ?_ _
            cases bb with
            | false =>
              go_wp2
              go_roundw
              case rel => exact ⟨q, ks, n, D, rowPs psi c t fl, rfl, by have := HQ.out; omega, HL5.out, by have := HQ.out; have := HM.out; omega, HRO2.out.1, HRO2.out.2⟩
              case measure => have := HQ.out; simp [intOf]; omega
            | true =>
              obtain ⟨⟨c0, c1, d2⟩, e1, e2, e3'⟩ := hS5
              have hfz : ∀ o, W5.frozen? ⟨g, o, none⟩ = false := by
                rcases HL5.out.ni.row.2 with ⟨h, _⟩ | ⟨g', cap', cur, h, _, hh, _⟩
                · cases h
                · cases h
                  intro o
                  exact Lib.frozen_of_heap hh o
              have f1 := hfz (j * 4 + 1)
              have f2 := hfz (j * 4 + 1 + 1)
              have f3 := hfz (j * 4 + 1 + 2)
              have hrow5 : NI (am + 1) am (.slice (some ⟨g, 0, none⟩) ks.length kc) ks n D W5 := by rw [HM.out]; exact HL5.out.ni
              have hni6 := NI.setBest hrow5 (c, t, fl) j HJ.out HGOOD.out.2.2
              rw [show 4 * j + 1 = j * 4 + 1 by omega, show 4 * j + 2 = j * 4 + 1 + 1 by omega, show 4 * j + 3 = j * 4 + 1 + 2 by omega] at hni6
              obtain ⟨W6, hW6⟩ : ∃ W, ((W5.setCell ⟨g, j * 4 + 1, none⟩ (.string c)).setCell ⟨g, j * 4 + 1 + 1, none⟩ (.string t)).setCell ⟨g, j * 4 + 1 + 2, none⟩ (.int .i64 fl) = W := ⟨_, rfl⟩
              have hgl := World.ownsRow.lt HL5.out.ni.row g rfl
              have hba : Below am W5 W6 := by
                rw [← hW6]
                exact (((Below.refl am W5).setCell (p := ⟨g, j * 4 + 1, none⟩) (by show am ≤ g; omega) _).setCell (p := ⟨g, j * 4 + 1 + 1, none⟩) (by show am ≤ g; omega) _).setCell (p := ⟨g, j * 4 + 1 + 2, none⟩) (by show am ≤ g; omega) _
              rw [HM.out] at hni6
              simp only at hni6
              rw [hW6] at hni6
              have HL6 := Lib.hid (HL5.out.above hba hni6)
              have HLN := Lib.hid (show (ks.set j ((ks.getD j k0).1, (ks.getD j k0).2.1, (c, t, fl))).length = M from by rw [List.length_set]; exact HM.out)
              clear hfz hrow5 hni6 hba hgl hHeld
              go_wp2
              go_roundw
              case rel => exact ⟨q, _, n, D, rowPs psi c t fl, rfl, by have := HQ.out; omega, HL6.out, by have := HQ.out; have := HLN.out; omega, HRO2.out.1, HRO2.out.2⟩
              case measure => have := HQ.out; simp [intOf]; omega
      · have hne0 : (er != 0) = true := by simpa using hne
        have HNE := Lib.hid hne
        have HNO := Lib.hid (show ¬ RowsOk rs from fun h => hno ((HROW.out.1.1 (HRO.out.1 h)).1))
        have HB3 := Lib.hid (show Below w.heap.size w W3 from HL2.out.bel.trans (hk3.below (by have := HL2.out.bel.size; omega) (fun j e => by have := HL2.out.ord; omega)))
        clear hne hno
        go_wp2
        go_ret3
        exact ⟨_, _, _, rfl, .inr ⟨HNE.out, rfl, HNO.out⟩, HB3.out⟩
    · have i1 : ¬ (i : Int) < (N : Int) := by omega
      have hin : i = N := by omega
      subst hin
      have HOK := Lib.hid (show RowsOk rs ∧ psOf rs = psi from by
        have h1 := HRO.out
        have h2 := HPS.out
        rw [← HN.out, List.drop_length] at h1 h2
        exact ⟨h1.2 trivial, h2⟩)
      have HJ0 := Lib.hid (show LJ w rs (.slice oa i oc) tm hm cb am (.slice ka M kc) ks n D psi (2000 * i) (.slice none 0 0) (.slice none 0 0) (.slice none 0 0) 0 ((ks.take 0).map (·.1)) (.slice none 0 0) 0 ((ks.take 0).map (fun k => Value.string k.2.2.1)) wr from
        ⟨HL1.out.cs, HL1.out.ni, HL1.out.bel, HL1.out.own, HL1.out.outlt, HL1.out.ord, by simpa using World.ownsRow_nil _ _ _ _, by simpa using World.ownsRow_nil _ _ _ _⟩)
      clear HL1 HRO HPS
      go_wp2
      go_loopw [91] (fun s91 wr => ∃ (k : Nat) (v5 v6 : Value), s91 = .int .i64 k ∧ k ≤ M ∧ LJ w rs (.slice oa i oc) tm hm cb am (.slice ka M kc) ks n D psi (2000 * i) v5 v6 v5 k ((ks.take k).map (·.1)) v6 k ((ks.take k).map (fun k => Value.string k.2.2.1)) wr) (fun s91 _ => M - (intOf s91).toNat)
      case atStart => exact ⟨0, _, _, rfl, Nat.zero_le _, HJ0.out⟩
      case round =>
        obtain ⟨k, v5, v6, rfl, hk, hLJ⟩ := hrel
        have HJ1 := Lib.hid hLJ; clear hLJ
        by_cases hlt2 : k < M
        · have k0' : (0 : Int) ≤ (k : Int) := by omega
          have k1' : (k : Int) < (M : Int) := by omega
          obtain ⟨g, rfl⟩ : ∃ g, ka = some ⟨g, 0, none⟩ := by
            rcases HKA.out with ⟨_, _, h0⟩ | ⟨g, h, _⟩
            · omega
            · exact ⟨g, h⟩
          have hkk : k < ks.length := by have := HM.out; omega
          obtain ⟨⟨bv, bk, bc, bt, bf⟩, hbk⟩ : ∃ x, ks.getD k k0 = x := ⟨_, rfl⟩
          have hcell : ∀ (o : Nat) (u : Value), o < 4 → (keyC (ks.getD k k0))[o]? = some u → wr.cell? ⟨g, k * 4 + o, none⟩ = some u := by
            intro o u ho hu
            have := World.ownsRow.cells HJ1.out.ni.row (g := g) rfl (4 * k + o) u ((keyC_at ks k o hkk ho).trans hu)
            have e : (⟨g, 0, none⟩ : Addr).add (4 * k + o) = ⟨g, k * 4 + o, none⟩ := by unfold Addr.add; split <;> simp_all <;> omega
            rw [e] at this; exact this
          rw [hbk] at hcell
          have e0 : wr.cell? ⟨g, k * 4, none⟩ = some bv := hcell 0 _ (by decide) rfl
          have e1 : wr.cell? ⟨g, k * 4 + 1, none⟩ = some (.string bc) := hcell 1 _ (by decide) rfl
          have e2 : wr.cell? ⟨g, k * 4 + 2, none⟩ = some (.string bt) := hcell 2 _ (by decide) rfl
          have e3 : wr.cell? ⟨g, k * 4 + 3, none⟩ = some (.int .i64 bf) := hcell 3 _ (by decide) rfl
          have hget : ks[k] = (bv, bk, bc, bt, bf) := by rw [← hbk]; simp [List.getD_eq_getElem?_getD, hkk]
          have hbo := HJ1.out.ni.keys ks[k] (List.getElem_mem hkk)
          rw [hget] at hbo
          obtain ⟨bva, bvc, hbv, -⟩ := hbo.rd.shape
          obtain ⟨bn, hbn⟩ : ∃ n, bk.length = n := ⟨_, rfl⟩
          simp only at hbv
          rw [hbn] at hbv
          subst hbv
          have HT5 := Lib.hid (show (ks.take (k + 1)).map (·.1) = (ks.take k).map (·.1) ++ [.slice bva bn bvc] from by rw [List.take_succ_eq_append_getElem hkk, hget]; simp)
          have HT6 := Lib.hid (show (ks.take (k + 1)).map (fun k => Value.string k.2.2.1) = (ks.take k).map (fun k => Value.string k.2.2.1) ++ [.string bc] from by rw [List.take_succ_eq_append_getElem hkk, hget]; simp)
          obtain ⟨vb, hvb⟩ : ∃ q, wr.heap.size = q := ⟨_, rfl⟩
          obtain ⟨W2, hW2⟩ : ∃ W, wr.alloc (.cells #[.slice bva bn bvc, .string bc, .string bt, .int .i64 bf] 80) = W := ⟨_, rfl⟩
          have HV2 := Lib.hid (show Blk W2 vb #[.slice bva bn bvc, .string bc, .string bt, .int .i64 bf] 80 by rw [← hW2, ← hvb]; exact Blk.new _ _ _)
          have HJ2 := Lib.hid (HJ1.out.below (show Below wr.heap.size wr W2 by rw [← hW2]; exact (Below.refl _ _).alloc (Nat.le_refl _) _))
          clear hcell hbk hget hbo hbn hkk
          go_wp2_with fail
          have hs2 : am + 1 ≤ W2.heap.size := HJ2.out.big
          have HJ3 := Lib.hid (HJ2.out.below (Below.drew (Below.refl W2.heap.size W2)))
          have HV3 := Lib.hid (show Blk W2.drew vb _ _ from HV2.out)
          have hSof : ∀ W, Blk W cb #[.pointer none, smallV, .slice oa i oc, .map (some tm), .map (some hm), v5, v6] 72 → Blk W vb #[.slice bva bn bvc, .string bc, .string bt, .int .i64 bf] 80 → W.cell? ⟨cb, 5, none⟩ = some v5 ∧ W.cell? ⟨cb, 6, none⟩ = some v6 ∧ W.cell? ⟨vb, 0, none⟩ = some (.slice bva bn bvc) ∧ W.cell? ⟨vb, 1, none⟩ = some (.string bc) := by
            intro W h1 h2
            refine ⟨?_, ?_, ?_, ?_⟩
            · have := h1.cell 5; simpa using this
            · have := h1.cell 6; simpa using this
            · have := h2.cell 0; simpa using this
            · have := h2.cell 1; simpa using this
          have HSOF := Lib.hid hSof
          have hS0 := hSof _ HJ3.out.cs.blk HV3.out
          clear hSof
          refine wp_region_E (fun w' => w'.cell? ⟨cb, 5, none⟩ = some v5 ∧ w'.cell? ⟨cb, 6, none⟩ = some v6 ∧ w'.cell? ⟨vb, 0, none⟩ = some (.slice bva bn bvc) ∧ w'.cell? ⟨vb, 1, none⟩ = some (.string bc)) (fun j => j == 1 || decide (21 ≤ j)) (by kernel_rfl) ?_
          obtain ⟨W3, hW3⟩ : ∃ W, W2.drew = W := ⟨_, rfl⟩
          rw [hW3] at HJ3 HV3 hS0 ⊢
          clear hW3 HJ2 HV2 HJ1 e0 e1 e2 e3 hs2 hW2 hvb
          refine wpAnyE_takeW (i := 1) (d := some 96) (v := ?_) rfl rfl (by kernel_rfl) (by kernel_rfl) (by kernel_rfl) (by kernel_rfl) (fun _ _ _ h => h) (Or.inl ⟨by rfl, ?_⟩) ?_
          rotate_left
          · intro w hSw; go_simp; all_goals (with_reducible rfl)
          simp only [Act.put, List.setIfInBounds_toArray, List.set_cons_zero, List.set_cons_succ]
          refine wpAnyE_takeT (i := 0) (d := some 95) (v := ?_) rfl rfl (by kernel_rfl) (by kernel_rfl) (by kernel_rfl) (by kernel_rfl) (fun _ _ _ h => h) (Or.inl ⟨by rfl, ?_⟩) (by assumption) ?_
          rotate_left
          · intro w hSw; (try dsimp only at hSw); go_simp; all_goals (with_reducible rfl)
          simp only [Act.put, List.setIfInBounds_toArray, List.set_cons_zero, List.set_cons_succ]
          refine wpAnyE_takeT (i := 2) (d := some 97) (v := ?_) rfl rfl (by kernel_rfl) (by kernel_rfl) (by kernel_rfl) (by kernel_rfl) (fun _ _ _ h => h) (Or.inl ⟨by rfl, ?_⟩) (by assumption) ?_
          rotate_left
          · intro w hSw; (try dsimp only at hSw); go_simp; all_goals (with_reducible rfl)
          simp only [Act.put, List.setIfInBounds_toArray, List.set_cons_zero, List.set_cons_succ]
          refine wpAnyE_takeT (i := 3) (d := some 98) (v := ?_) rfl rfl (by kernel_rfl) (by kernel_rfl) (by kernel_rfl) (by kernel_rfl) (fun _ _ _ h => h) (Or.inl ⟨by rfl, ?_⟩) (by assumption) ?_
          rotate_left
          · intro w hSw; (try dsimp only at hSw); go_simp; all_goals (with_reducible rfl)
          simp only [Act.put, List.setIfInBounds_toArray, List.set_cons_zero, List.set_cons_succ]
          refine wpAnyE_takeT (i := 4) (d := some 99) (v := ?_) rfl rfl (by kernel_rfl) (by kernel_rfl) (by kernel_rfl) (by kernel_rfl) (fun _ _ _ h => h) (Or.inl ⟨by rfl, ?_⟩) (by assumption) ?_
          rotate_left
          · intro w hSw; (try dsimp only at hSw); go_simp; all_goals (with_reducible rfl)
          simp only [Act.put, List.setIfInBounds_toArray, List.set_cons_zero, List.set_cons_succ]
          refine wpAnyE_takeT (i := 5) (d := some 100) (v := ?_) rfl rfl (by kernel_rfl) (by kernel_rfl) (by kernel_rfl) (by kernel_rfl) (fun _ _ _ h => h) (Or.inl ⟨by rfl, ?_⟩) (by assumption) ?_
          rotate_left
          · intro w hSw; (try dsimp only at hSw); go_simp; all_goals (with_reducible rfl)
          simp only [Act.put, List.setIfInBounds_toArray, List.set_cons_zero, List.set_cons_succ]
          refine wpAnyE_takeT (i := 6) (d := some 101) (v := ?_) rfl rfl (by kernel_rfl) (by kernel_rfl) (by kernel_rfl) (by kernel_rfl) (fun _ _ _ h => h) (Or.inl ⟨by rfl, ?_⟩) (by assumption) ?_
          rotate_left
          · intro w hSw; (try dsimp only at hSw); go_simp; all_goals (with_reducible rfl)
          simp only [Act.put, List.setIfInBounds_toArray, List.set_cons_zero, List.set_cons_succ]
          refine wpAnyE_takeT (i := 7) (d := some 102) (v := ?_) rfl rfl (by kernel_rfl) (by kernel_rfl) (by kernel_rfl) (by kernel_rfl) (fun _ _ _ h => h) (Or.inl ⟨by rfl, ?_⟩) (by assumption) ?_
          rotate_left
          · intro w hSw; (try dsimp only at hSw); go_simp; all_goals (with_reducible rfl)
          simp only [Act.put, List.setIfInBounds_toArray, List.set_cons_zero, List.set_cons_succ]
          refine wpAnyE_takeT (i := 10) (d := some 105) (v := ?_) rfl rfl (by kernel_rfl) (by kernel_rfl) (by kernel_rfl) (by kernel_rfl) (fun _ _ _ h => h) (Or.inl ⟨by rfl, ?_⟩) (by assumption) ?_
          rotate_left
          · intro w hSw; (try dsimp only at hSw); go_simp; all_goals (with_reducible rfl)
          simp only [Act.put, List.setIfInBounds_toArray, List.set_cons_zero, List.set_cons_succ]
          refine wpAnyE_takeT (i := 11) (d := some 106) (v := ?_) rfl rfl (by kernel_rfl) (by kernel_rfl) (by kernel_rfl) (by kernel_rfl) (fun _ _ _ h => h) (Or.inl ⟨by rfl, ?_⟩) (by assumption) ?_
          rotate_left
          · intro w hSw; (try dsimp only at hSw); go_simp; all_goals (with_reducible rfl)
          simp only [Act.put, List.setIfInBounds_toArray, List.set_cons_zero, List.set_cons_succ]
          refine wpAnyE_takeT (i := 12) (d := some 107) (v := ?_) rfl rfl (by kernel_rfl) (by kernel_rfl) (by kernel_rfl) (by kernel_rfl) (fun _ _ _ h => h) (Or.inl ⟨by rfl, ?_⟩) (by assumption) ?_
          rotate_left
          · intro w hSw; (try dsimp only at hSw); go_simp; all_goals (with_reducible rfl)
          simp only [Act.put, List.setIfInBounds_toArray, List.set_cons_zero, List.set_cons_succ]
          refine wpAnyE_takeT (i := 13) (d := some 108) (v := ?_) rfl rfl (by kernel_rfl) (by kernel_rfl) (by kernel_rfl) (by kernel_rfl) (fun _ _ _ h => h) (Or.inl ⟨by rfl, ?_⟩) (by assumption) ?_
          rotate_left
          · intro w hSw; (try dsimp only at hSw); go_simp; all_goals (with_reducible rfl)
          simp only [Act.put, List.setIfInBounds_toArray, List.set_cons_zero, List.set_cons_succ]
          refine wpAnyE_takeT (i := 14) (d := some 109) (v := ?_) rfl rfl (by kernel_rfl) (by kernel_rfl) (by kernel_rfl) (by kernel_rfl) (fun _ _ _ h => h) (Or.inl ⟨by rfl, ?_⟩) (by assumption) ?_
          rotate_left
          · intro w hSw; (try dsimp only at hSw); go_simp; all_goals (with_reducible rfl)
          simp only [Act.put, List.setIfInBounds_toArray, List.set_cons_zero, List.set_cons_succ]
          refine wpAnyE_takeT (i := 15) (d := some 110) (v := ?_) rfl rfl (by kernel_rfl) (by kernel_rfl) (by kernel_rfl) (by kernel_rfl) (fun _ _ _ h => h) (Or.inl ⟨by rfl, ?_⟩) (by assumption) ?_
          rotate_left
          · intro w hSw; (try dsimp only at hSw); go_simp; all_goals (with_reducible rfl)
          simp only [Act.put, List.setIfInBounds_toArray, List.set_cons_zero, List.set_cons_succ]
          refine wpAnyE_takeT (i := 16) (d := some 111) (v := ?_) rfl rfl (by kernel_rfl) (by kernel_rfl) (by kernel_rfl) (by kernel_rfl) (fun _ _ _ h => h) (Or.inl ⟨by rfl, ?_⟩) (by assumption) ?_
          rotate_left
          · intro w hSw; (try dsimp only at hSw); go_simp; all_goals (with_reducible rfl)
          simp only [Act.put, List.setIfInBounds_toArray, List.set_cons_zero, List.set_cons_succ]
          refine wpAnyE_ready (rs := [8, 17]) (by kernel_rfl) (by simp) ?_
          refine AllE.cons rfl (fun K hK => ?_) (AllE.cons rfl (fun K hK => ?_) AllE.nil)
          · go_simp
            obtain ⟨U51, hU51, hp51⟩ : ∃ V', W3.alloc (.cells #[.slice bva bn bvc] 75) = V' ∧ Blk V' W3.heap.size #[.slice bva bn bvc] 75 := ⟨_, rfl, Blk.new _ _ _⟩
            have hb51 : Below W3.heap.size W3 U51 := by rw [← hU51]; exact (Below.refl _ _).alloc (Nat.le_refl _) _
            have HJ51u := Lib.hid (HJ3.out.below hb51)
            have HV51u := Lib.hid (HV3.out.below hb51 HV3.out.lt)
            obtain ⟨p8, hpe51⟩ : ∃ q, W3.heap.size = q := ⟨_, rfl⟩
            rw [hpe51] at hp51
            have HP8 := Lib.hid hp51
            have hS51 := HSOF.out _ HJ51u.out.cs.blk HV51u.out
            try rw [hU51]
            try rw [hpe51]
            refine hK.out _ _ (fun _ => hS51) ?_
            clear hK K hU51 hpe51 hp51 hb51 HJ3 HV3 hS0
            try simp only [Act.put, List.setIfInBounds_toArray, List.set_cons_zero, List.set_cons_succ]
            refine wpAnyE_ready (rs := [9, 17]) (by kernel_rfl) (by simp) ?_
            refine AllE.cons rfl (fun K hK => ?_) (AllE.cons rfl (fun K hK => ?_) AllE.nil)
            · refine step_appendN keysE rfl _ _ rfl (am + 1) v5 k _ rfl HJ51u.out.r5 p8 #[.slice bva bn bvc] _ HP8.out rfl rfl (by simp [Value.oneCell']) (by omega) (by omega) HJ51u.out.big ?_
              intro g52 cap52 U52 hown52 hgr52 _ _
              have HJ52u := Lib.hid (HJ51u.out.app5 hgr52 hown52)
              have HV52u := Lib.hid (HV51u.out.grown hgr52 (blk_ne_row HV51u.out HJ51u.out.r5 (by decide)))
              have hS52 := HSOF.out _ HJ52u.out.cs.blk HV52u.out
              refine hK.out _ _ (fun _ => hS52) ?_
              clear hK K hown52 hgr52 HJ51u HV51u HP8 hS51
              try simp only [Act.put, List.setIfInBounds_toArray, List.set_cons_zero, List.set_cons_succ]
              refine wpAnyE_ready (rs := [17]) (by kernel_rfl) (by simp) ?_
              refine AllE.cons rfl (fun K hK => ?_) AllE.nil
              go_simp
              obtain ⟨U53, hU53, hp53⟩ : ∃ V', U52.alloc (.cells #[.string bc] 9) = V' ∧ Blk V' U52.heap.size #[.string bc] 9 := ⟨_, rfl, Blk.new _ _ _⟩
              have hb53 : Below U52.heap.size U52 U53 := by rw [← hU53]; exact (Below.refl _ _).alloc (Nat.le_refl _) _
              have HJ53u := Lib.hid (HJ52u.out.below hb53)
              have HV53u := Lib.hid (HV52u.out.below hb53 HV52u.out.lt)
              obtain ⟨p17, hpe53⟩ : ∃ q, U52.heap.size = q := ⟨_, rfl⟩
              rw [hpe53] at hp53
              have HP17 := Lib.hid hp53
              have hS53 := HSOF.out _ HJ53u.out.cs.blk HV53u.out
              try rw [hU53]
              try rw [hpe53]
              refine hK.out _ _ (fun _ => hS53) ?_
              clear hK K hU53 hpe53 hp53 hb53 HJ52u HV52u hS52
              try simp only [Act.put, List.setIfInBounds_toArray, List.set_cons_zero, List.set_cons_succ]
              refine wpAnyE_ready (rs := [18]) (by kernel_rfl) (by simp) ?_
              refine AllE.cons rfl (fun K hK => ?_) AllE.nil
              refine step_appendN strE rfl _ _ rfl (am + 1) v6 k _ rfl HJ53u.out.r6 p17 #[.string bc] _ HP17.out rfl rfl (by simp [Value.oneCell']) (by omega) (by omega) HJ53u.out.big ?_
              intro g54 cap54 U54 hown54 hgr54 _ _
              have HJ54u := Lib.hid (HJ53u.out.app6 hgr54 hown54)
              have HV54u := Lib.hid (HV53u.out.grown hgr54 (blk_ne_row HV53u.out HJ53u.out.r6 (by decide)))
              have hS54 := HSOF.out _ HJ54u.out.cs.blk HV54u.out
              refine hK.out _ _ (fun _ => hS54) ?_
              clear hK K hown54 hgr54 HJ53u HV53u HP17 hS53
              try simp only [Act.put, List.setIfInBounds_toArray, List.set_cons_zero, List.set_cons_succ]
              refine wpAnyE_takeT (i := 19) (d := some 114) (v := ?_) rfl rfl (by kernel_rfl) (by kernel_rfl) (by kernel_rfl) (by kernel_rfl) (fun _ _ _ h => h) (Or.inl ⟨by rfl, ?_⟩) (by assumption) ?_
              rotate_left
              · intro w hSw; (try dsimp only at hSw); go_simp; all_goals (with_reducible rfl)
              simp only [Act.put, List.setIfInBounds_toArray, List.set_cons_zero, List.set_cons_succ]
              refine wpAnyE_takeT (i := 20) (d := some 115) (v := ?_) rfl rfl (by kernel_rfl) (by kernel_rfl) (by kernel_rfl) (by kernel_rfl) (fun _ _ _ h => h) (Or.inl ⟨by rfl, ?_⟩) (by assumption) ?_
              rotate_left
              · intro w hSw; (try dsimp only at hSw); go_simp; all_goals (with_reducible rfl)
              simp only [Act.put, List.setIfInBounds_toArray, List.set_cons_zero, List.set_cons_succ]
              refine wpAnyE_ready (rs := [21]) (by kernel_rfl) (by simp) ?_
              refine AllE.cons rfl (fun K hK => ?_) AllE.nil
              go_simp
              have hJa := LJ.set HJ54u.out 5 (.slice (some ⟨g52, 0, none⟩) (k + 1) cap52) _ v6 rfl
              obtain ⟨Ua, hUa⟩ : ∃ W, U54.setCell ⟨cb, 5, none⟩ (.slice (some ⟨g52, 0, none⟩) (k + 1) cap52) = W := ⟨_, rfl⟩
              have f5 := HJ54u.out.cs.blk.frozen 5
              rw [hUa] at hJa
              have d6 : Ua.cell? ⟨cb, 6, none⟩ = some v6 := by have := hJa.cs.blk.cell 6; simpa using this
              have f6 := hJa.cs.blk.frozen 6
              have hJb := LJ.set hJa 6 (.slice (some ⟨g54, 0, none⟩) (k + 1) cap54) _ _ rfl
              have HJB := Lib.hid hJb
              go_simp
              refine hK.out _ _ (fun h => by simp at h) ?_
              clear hK K hJa hJb hS54 f5
              try simp only [Act.put, List.setIfInBounds_toArray, List.set_cons_zero, List.set_cons_succ]
              refine wpAnyE_ready (rs := [22]) (by kernel_rfl) (by simp) ?_
              refine AllE.cons rfl (fun K hK => ?_) AllE.nil
              go_simp
              refine hK.out _ _ (fun h => by simp at h) ?_
              clear hK K
              try simp only [Act.put, List.setIfInBounds_toArray, List.set_cons_zero, List.set_cons_succ]
              refine wpAnyE_ready (rs := [23]) (by kernel_rfl) (by simp) ?_
              refine AllE.cons rfl (fun K hK => ?_) AllE.nil
              go_simp
              refine hK.out _ _ (fun h => by simp at h) ?_
              clear hK K
              try simp only [Act.put, List.setIfInBounds_toArray, List.set_cons_zero, List.set_cons_succ]
              refine wpAnyE_ready (rs := [24]) (by kernel_rfl) (by simp) ?_
              refine AllE.cons rfl (fun K hK => ?_) AllE.nil
              go_simp
              refine hK.out _ _ (fun h => by simp at h) ?_
              clear hK K
              try simp only [Act.put, List.setIfInBounds_toArray, List.set_cons_zero, List.set_cons_succ]
              refine wpAnyE_done (by kernel_rfl) ?_ _
              clear d6 f6
              go_wp2
              go_roundw
              case rel => exact ⟨k + 1, _, _, by go_num, by omega, by rw [HT5.out, HT6.out]; exact HJB.out⟩
              case measure => simp [intOf]; omega
            · go_simp
              obtain ⟨U52, hU52, hp52⟩ : ∃ V', U51.alloc (.cells #[.string bc] 9) = V' ∧ Blk V' U51.heap.size #[.string bc] 9 := ⟨_, rfl, Blk.new _ _ _⟩
              have hb52 : Below U51.heap.size U51 U52 := by rw [← hU52]; exact (Below.refl _ _).alloc (Nat.le_refl _) _
              have HJ52u := Lib.hid (HJ51u.out.below hb52)
              have HV52u := Lib.hid (HV51u.out.below hb52 HV51u.out.lt)
              have HP8 := Lib.hid (HP8.out.below hb52 HP8.out.lt)
              obtain ⟨p17, hpe52⟩ : ∃ q, U51.heap.size = q := ⟨_, rfl⟩
              rw [hpe52] at hp52
              have HP17 := Lib.hid hp52
              have hS52 := HSOF.out _ HJ52u.out.cs.blk HV52u.out
              try rw [hU52]
              try rw [hpe52]
              refine hK.out _ _ (fun _ => hS52) ?_
              clear hK K hU52 hpe52 hp52 hb52 HJ51u HV51u hS51
              try simp only [Act.put, List.setIfInBounds_toArray, List.set_cons_zero, List.set_cons_succ]
              refine wpAnyE_ready (rs := [9]) (by kernel_rfl) (by simp) ?_
              refine AllE.cons rfl (fun K hK => ?_) AllE.nil
              refine step_appendN keysE rfl _ _ rfl (am + 1) v5 k _ rfl HJ52u.out.r5 p8 #[.slice bva bn bvc] _ HP8.out rfl rfl (by simp [Value.oneCell']) (by omega) (by omega) HJ52u.out.big ?_
              intro g53 cap53 U53 hown53 hgr53 _ _
              have HJ53u := Lib.hid (HJ52u.out.app5 hgr53 hown53)
              have HV53u := Lib.hid (HV52u.out.grown hgr53 (blk_ne_row HV52u.out HJ52u.out.r5 (by decide)))
              have HP17 := Lib.hid (HP17.out.grown hgr53 (blk_ne_row HP17.out HJ52u.out.r5 (by decide)))
              have hS53 := HSOF.out _ HJ53u.out.cs.blk HV53u.out
              refine hK.out _ _ (fun _ => hS53) ?_
              clear hK K hown53 hgr53 HJ52u HV52u HP8 hS52
              try simp only [Act.put, List.setIfInBounds_toArray, List.set_cons_zero, List.set_cons_succ]
              refine wpAnyE_ready (rs := [18]) (by kernel_rfl) (by simp) ?_
              refine AllE.cons rfl (fun K hK => ?_) AllE.nil
              refine step_appendN strE rfl _ _ rfl (am + 1) v6 k _ rfl HJ53u.out.r6 p17 #[.string bc] _ HP17.out rfl rfl (by simp [Value.oneCell']) (by omega) (by omega) HJ53u.out.big ?_
              intro g54 cap54 U54 hown54 hgr54 _ _
              have HJ54u := Lib.hid (HJ53u.out.app6 hgr54 hown54)
              have HV54u := Lib.hid (HV53u.out.grown hgr54 (blk_ne_row HV53u.out HJ53u.out.r6 (by decide)))
              have hS54 := HSOF.out _ HJ54u.out.cs.blk HV54u.out
              refine hK.out _ _ (fun _ => hS54) ?_
              clear hK K hown54 hgr54 HJ53u HV53u HP17 hS53
              try simp only [Act.put, List.setIfInBounds_toArray, List.set_cons_zero, List.set_cons_succ]
              refine wpAnyE_takeT (i := 19) (d := some 114) (v := ?_) rfl rfl (by kernel_rfl) (by kernel_rfl) (by kernel_rfl) (by kernel_rfl) (fun _ _ _ h => h) (Or.inl ⟨by rfl, ?_⟩) (by assumption) ?_
              rotate_left
              · intro w hSw; (try dsimp only at hSw); go_simp; all_goals (with_reducible rfl)
              simp only [Act.put, List.setIfInBounds_toArray, List.set_cons_zero, List.set_cons_succ]
              refine wpAnyE_takeT (i := 20) (d := some 115) (v := ?_) rfl rfl (by kernel_rfl) (by kernel_rfl) (by kernel_rfl) (by kernel_rfl) (fun _ _ _ h => h) (Or.inl ⟨by rfl, ?_⟩) (by assumption) ?_
              rotate_left
              · intro w hSw; (try dsimp only at hSw); go_simp; all_goals (with_reducible rfl)
              simp only [Act.put, List.setIfInBounds_toArray, List.set_cons_zero, List.set_cons_succ]
              refine wpAnyE_ready (rs := [21]) (by kernel_rfl) (by simp) ?_
              refine AllE.cons rfl (fun K hK => ?_) AllE.nil
              go_simp
              have hJa := LJ.set HJ54u.out 5 (.slice (some ⟨g53, 0, none⟩) (k + 1) cap53) _ v6 rfl
              obtain ⟨Ua, hUa⟩ : ∃ W, U54.setCell ⟨cb, 5, none⟩ (.slice (some ⟨g53, 0, none⟩) (k + 1) cap53) = W := ⟨_, rfl⟩
              have f5 := HJ54u.out.cs.blk.frozen 5
              rw [hUa] at hJa
              have d6 : Ua.cell? ⟨cb, 6, none⟩ = some v6 := by have := hJa.cs.blk.cell 6; simpa using this
              have f6 := hJa.cs.blk.frozen 6
              have hJb := LJ.set hJa 6 (.slice (some ⟨g54, 0, none⟩) (k + 1) cap54) _ _ rfl
              have HJB := Lib.hid hJb
              go_simp
              refine hK.out _ _ (fun h => by simp at h) ?_
              clear hK K hJa hJb hS54 f5
              try simp only [Act.put, List.setIfInBounds_toArray, List.set_cons_zero, List.set_cons_succ]
              refine wpAnyE_ready (rs := [22]) (by kernel_rfl) (by simp) ?_
              refine AllE.cons rfl (fun K hK => ?_) AllE.nil
              go_simp
              refine hK.out _ _ (fun h => by simp at h) ?_
              clear hK K
              try simp only [Act.put, List.setIfInBounds_toArray, List.set_cons_zero, List.set_cons_succ]
              refine wpAnyE_ready (rs := [23]) (by kernel_rfl) (by simp) ?_
              refine AllE.cons rfl (fun K hK => ?_) AllE.nil
              go_simp
              refine hK.out _ _ (fun h => by simp at h) ?_
              clear hK K
              try simp only [Act.put, List.setIfInBounds_toArray, List.set_cons_zero, List.set_cons_succ]
              refine wpAnyE_ready (rs := [24]) (by kernel_rfl) (by simp) ?_
              refine AllE.cons rfl (fun K hK => ?_) AllE.nil
              go_simp
              refine hK.out _ _ (fun h => by simp at h) ?_
              clear hK K
              try simp only [Act.put, List.setIfInBounds_toArray, List.set_cons_zero, List.set_cons_succ]
              refine wpAnyE_done (by kernel_rfl) ?_ _
              clear d6 f6
              go_wp2
              go_roundw
              case rel => exact ⟨k + 1, _, _, by go_num, by omega, by rw [HT5.out, HT6.out]; exact HJB.out⟩
              case measure => simp [intOf]; omega
          · go_simp
            obtain ⟨U51, hU51, hp51⟩ : ∃ V', W3.alloc (.cells #[.string bc] 9) = V' ∧ Blk V' W3.heap.size #[.string bc] 9 := ⟨_, rfl, Blk.new _ _ _⟩
            have hb51 : Below W3.heap.size W3 U51 := by rw [← hU51]; exact (Below.refl _ _).alloc (Nat.le_refl _) _
            have HJ51u := Lib.hid (HJ3.out.below hb51)
            have HV51u := Lib.hid (HV3.out.below hb51 HV3.out.lt)
            obtain ⟨p17, hpe51⟩ : ∃ q, W3.heap.size = q := ⟨_, rfl⟩
            rw [hpe51] at hp51
            have HP17 := Lib.hid hp51
            have hS51 := HSOF.out _ HJ51u.out.cs.blk HV51u.out
            try rw [hU51]
            try rw [hpe51]
            refine hK.out _ _ (fun _ => hS51) ?_
            clear hK K hU51 hpe51 hp51 hb51 HJ3 HV3 hS0
            try simp only [Act.put, List.setIfInBounds_toArray, List.set_cons_zero, List.set_cons_succ]
            refine wpAnyE_ready (rs := [8]) (by kernel_rfl) (by simp) ?_
            refine AllE.cons rfl (fun K hK => ?_) AllE.nil
            go_simp
            obtain ⟨U52, hU52, hp52⟩ : ∃ V', U51.alloc (.cells #[.slice bva bn bvc] 75) = V' ∧ Blk V' U51.heap.size #[.slice bva bn bvc] 75 := ⟨_, rfl, Blk.new _ _ _⟩
            have hb52 : Below U51.heap.size U51 U52 := by rw [← hU52]; exact (Below.refl _ _).alloc (Nat.le_refl _) _
            have HJ52u := Lib.hid (HJ51u.out.below hb52)
            have HV52u := Lib.hid (HV51u.out.below hb52 HV51u.out.lt)
            have HP17 := Lib.hid (HP17.out.below hb52 HP17.out.lt)
            obtain ⟨p8, hpe52⟩ : ∃ q, U51.heap.size = q := ⟨_, rfl⟩
            rw [hpe52] at hp52
            have HP8 := Lib.hid hp52
            have hS52 := HSOF.out _ HJ52u.out.cs.blk HV52u.out
            try rw [hU52]
            try rw [hpe52]
            refine hK.out _ _ (fun _ => hS52) ?_
            clear hK K hU52 hpe52 hp52 hb52 HJ51u HV51u hS51
            try simp only [Act.put, List.setIfInBounds_toArray, List.set_cons_zero, List.set_cons_succ]
            refine wpAnyE_ready (rs := [9]) (by kernel_rfl) (by simp) ?_
            refine AllE.cons rfl (fun K hK => ?_) AllE.nil
            refine step_appendN keysE rfl _ _ rfl (am + 1) v5 k _ rfl HJ52u.out.r5 p8 #[.slice bva bn bvc] _ HP8.out rfl rfl (by simp [Value.oneCell']) (by omega) (by omega) HJ52u.out.big ?_
            intro g53 cap53 U53 hown53 hgr53 _ _
            have HJ53u := Lib.hid (HJ52u.out.app5 hgr53 hown53)
            have HV53u := Lib.hid (HV52u.out.grown hgr53 (blk_ne_row HV52u.out HJ52u.out.r5 (by decide)))
            have HP17 := Lib.hid (HP17.out.grown hgr53 (blk_ne_row HP17.out HJ52u.out.r5 (by decide)))
            have hS53 := HSOF.out _ HJ53u.out.cs.blk HV53u.out
            refine hK.out _ _ (fun _ => hS53) ?_
            clear hK K hown53 hgr53 HJ52u HV52u HP8 hS52
            try simp only [Act.put, List.setIfInBounds_toArray, List.set_cons_zero, List.set_cons_succ]
            refine wpAnyE_ready (rs := [18]) (by kernel_rfl) (by simp) ?_
            refine AllE.cons rfl (fun K hK => ?_) AllE.nil
            refine step_appendN strE rfl _ _ rfl (am + 1) v6 k _ rfl HJ53u.out.r6 p17 #[.string bc] _ HP17.out rfl rfl (by simp [Value.oneCell']) (by omega) (by omega) HJ53u.out.big ?_
            intro g54 cap54 U54 hown54 hgr54 _ _
            have HJ54u := Lib.hid (HJ53u.out.app6 hgr54 hown54)
            have HV54u := Lib.hid (HV53u.out.grown hgr54 (blk_ne_row HV53u.out HJ53u.out.r6 (by decide)))
            have hS54 := HSOF.out _ HJ54u.out.cs.blk HV54u.out
            refine hK.out _ _ (fun _ => hS54) ?_
            clear hK K hown54 hgr54 HJ53u HV53u HP17 hS53
            try simp only [Act.put, List.setIfInBounds_toArray, List.set_cons_zero, List.set_cons_succ]
            refine wpAnyE_takeT (i := 19) (d := some 114) (v := ?_) rfl rfl (by kernel_rfl) (by kernel_rfl) (by kernel_rfl) (by kernel_rfl) (fun _ _ _ h => h) (Or.inl ⟨by rfl, ?_⟩) (by assumption) ?_
            rotate_left
            · intro w hSw; (try dsimp only at hSw); go_simp; all_goals (with_reducible rfl)
            simp only [Act.put, List.setIfInBounds_toArray, List.set_cons_zero, List.set_cons_succ]
            refine wpAnyE_takeT (i := 20) (d := some 115) (v := ?_) rfl rfl (by kernel_rfl) (by kernel_rfl) (by kernel_rfl) (by kernel_rfl) (fun _ _ _ h => h) (Or.inl ⟨by rfl, ?_⟩) (by assumption) ?_
            rotate_left
            · intro w hSw; (try dsimp only at hSw); go_simp; all_goals (with_reducible rfl)
            simp only [Act.put, List.setIfInBounds_toArray, List.set_cons_zero, List.set_cons_succ]
            refine wpAnyE_ready (rs := [21]) (by kernel_rfl) (by simp) ?_
            refine AllE.cons rfl (fun K hK => ?_) AllE.nil
            go_simp
            have hJa := LJ.set HJ54u.out 5 (.slice (some ⟨g53, 0, none⟩) (k + 1) cap53) _ v6 rfl
            obtain ⟨Ua, hUa⟩ : ∃ W, U54.setCell ⟨cb, 5, none⟩ (.slice (some ⟨g53, 0, none⟩) (k + 1) cap53) = W := ⟨_, rfl⟩
            have f5 := HJ54u.out.cs.blk.frozen 5
            rw [hUa] at hJa
            have d6 : Ua.cell? ⟨cb, 6, none⟩ = some v6 := by have := hJa.cs.blk.cell 6; simpa using this
            have f6 := hJa.cs.blk.frozen 6
            have hJb := LJ.set hJa 6 (.slice (some ⟨g54, 0, none⟩) (k + 1) cap54) _ _ rfl
            have HJB := Lib.hid hJb
            go_simp
            refine hK.out _ _ (fun h => by simp at h) ?_
            clear hK K hJa hJb hS54 f5
            try simp only [Act.put, List.setIfInBounds_toArray, List.set_cons_zero, List.set_cons_succ]
            refine wpAnyE_ready (rs := [22]) (by kernel_rfl) (by simp) ?_
            refine AllE.cons rfl (fun K hK => ?_) AllE.nil
            go_simp
            refine hK.out _ _ (fun h => by simp at h) ?_
            clear hK K
            try simp only [Act.put, List.setIfInBounds_toArray, List.set_cons_zero, List.set_cons_succ]
            refine wpAnyE_ready (rs := [23]) (by kernel_rfl) (by simp) ?_
            refine AllE.cons rfl (fun K hK => ?_) AllE.nil
            go_simp
            refine hK.out _ _ (fun h => by simp at h) ?_
            clear hK K
            try simp only [Act.put, List.setIfInBounds_toArray, List.set_cons_zero, List.set_cons_succ]
            refine wpAnyE_ready (rs := [24]) (by kernel_rfl) (by simp) ?_
            refine AllE.cons rfl (fun K hK => ?_) AllE.nil
            go_simp
            refine hK.out _ _ (fun h => by simp at h) ?_
            clear hK K
            try simp only [Act.put, List.setIfInBounds_toArray, List.set_cons_zero, List.set_cons_succ]
            refine wpAnyE_done (by kernel_rfl) ?_ _
            clear d6 f6
            go_wp2
            go_roundw
            case rel => exact ⟨k + 1, _, _, by go_num, by omega, by rw [HT5.out, HT6.out]; exact HJB.out⟩
            case measure => simp [intOf]; omega
        · have k1' : ¬ (k : Int) < (M : Int) := by omega
          have hkM : k = M := by omega
          subst hkM
          have hkl : ks.length ≤ k := by have := HM.out; omega
          have HRD5 := Lib.hid (NI.rdRows HJ1.out.ni HM.out.symm (by rw [List.take_of_length_le hkl]) HJ1.out.r5)
          have HRD6 := Lib.hid (rdS_of HM.out.symm (by rw [List.take_of_length_le hkl]) HJ1.out.r6)
          have HPO := Lib.hid HJ1.out.ni.policyOk
          have HGO := Lib.hid HJ1.out.ni.good
          have HKL := Lib.hid hkl
          clear hkl
          go_wp2_with fail
          have d5 : wr.drew.cell? ⟨cb, 5, none⟩ = some v5 := by have := HJ1.out.cs.blk.cell 5; simpa using this
          have d6 : wr.drew.cell? ⟨cb, 6, none⟩ = some v6 := by have := HJ1.out.cs.blk.cell 6; simpa using this
          have hS0 : wr.drew.cell? ⟨cb, 5, none⟩ = some v5 ∧ wr.drew.cell? ⟨cb, 6, none⟩ = some v6 := ⟨d5, d6⟩
          refine wp_region_held_drew (S := fun w' => w'.cell? ⟨cb, 5, none⟩ = some v5 ∧ w'.cell? ⟨cb, 6, none⟩ = some v6) (by kernel_rfl) hS0 (fun hHeld => ?_)
          clear hS0 d5 d6
          have HJ2 := Lib.hid (HJ1.out.below (Below.drew (Below.refl wr.heap.size wr)))
          have HRE5 := Lib.hid (HRD5.out.keep (Below.drew (Below.refl wr.heap.size wr)) rfl)
          have HRE6 := Lib.hid (HRD6.out.mono (Below.drew (Below.refl wr.heap.size wr)) rfl)
          obtain ⟨W2, hW2⟩ : ∃ W, wr.drew = W := ⟨_, rfl⟩
          rw [hW2] at HJ2 HRE5 HRE6 hHeld ⊢
          clear hW2 HJ1 HRD5 HRD6
          refine wpAnyH_takeD (i := 0) (d := some 120) (v := ?_) rfl rfl (by kernel_rfl) (by kernel_rfl) (by kernel_rfl) (fun _ _ _ h => h) (Or.inl ⟨by rfl, ?_⟩) (by assumption) ?_
          rotate_left
          · intro w hSw; (try dsimp only at hSw); go_simp; all_goals (with_reducible rfl)
          simp only [Act.put, List.setIfInBounds_toArray, List.set_cons_zero, List.set_cons_succ]
          refine wpAnyH_takeD (i := 1) (d := some 121) (v := ?_) rfl rfl (by kernel_rfl) (by kernel_rfl) (by kernel_rfl) (fun _ _ _ h => h) (Or.inl ⟨by rfl, ?_⟩) (by assumption) ?_
          rotate_left
          · intro w hSw; (try dsimp only at hSw); go_simp; all_goals (with_reducible rfl)
          simp only [Act.put, List.setIfInBounds_toArray, List.set_cons_zero, List.set_cons_succ]
          refine wpAnyH_takeD (i := 2) (d := some 122) (v := ?_) rfl rfl (by kernel_rfl) (by kernel_rfl) (by kernel_rfl) (fun _ _ _ h => h) (Or.inl ⟨by rfl, ?_⟩) (by assumption) ?_
          rotate_left
          · intro w hSw; (try dsimp only at hSw); go_simp; all_goals (with_reducible rfl)
          simp only [Act.put, List.setIfInBounds_toArray, List.set_cons_zero, List.set_cons_succ]
          refine wpAnyH_takeD (i := 3) (d := some 123) (v := ?_) rfl rfl (by kernel_rfl) (by kernel_rfl) (by kernel_rfl) (fun _ _ _ h => h) (Or.inl ⟨by rfl, ?_⟩) (by assumption) ?_
          rotate_left
          · intro w hSw; (try dsimp only at hSw); go_simp; all_goals (with_reducible rfl)
          simp only [Act.put, List.setIfInBounds_toArray, List.set_cons_zero, List.set_cons_succ]
          refine wpAnyH_takeD (i := 4) (d := some 124) (v := ?_) rfl rfl (by kernel_rfl) (by kernel_rfl) (by kernel_rfl) (fun _ _ _ h => h) (Or.inl ⟨by rfl, ?_⟩) (by assumption) ?_
          rotate_left
          · intro w hSw; (try dsimp only at hSw); go_simp; all_goals (with_reducible rfl)
          simp only [Act.put, List.setIfInBounds_toArray, List.set_cons_zero, List.set_cons_succ]
          refine wpAnyH_takeD (i := 5) (d := some 125) (v := ?_) rfl rfl (by kernel_rfl) (by kernel_rfl) (by kernel_rfl) (fun _ _ _ h => h) (Or.inl ⟨by rfl, ?_⟩) (by assumption) ?_
          rotate_left
          · intro w hSw; (try dsimp only at hSw); go_simp; all_goals (with_reducible rfl)
          simp only [Act.put, List.setIfInBounds_toArray, List.set_cons_zero, List.set_cons_succ]
          refine wpAnyH_takeD (i := 6) (d := some 126) (v := ?_) rfl rfl (by kernel_rfl) (by kernel_rfl) (by kernel_rfl) (fun _ _ _ h => h) (Or.inl ⟨by rfl, ?_⟩) (by assumption) ?_
          rotate_left
          · intro w hSw; (try dsimp only at hSw); go_simp; all_goals (with_reducible rfl)
          simp only [Act.put, List.setIfInBounds_toArray, List.set_cons_zero, List.set_cons_succ]
          refine wpAnyH_takeD (i := 7) (d := some 127) (v := ?_) rfl rfl (by kernel_rfl) (by kernel_rfl) (by kernel_rfl) (fun _ _ _ h => h) (Or.inl ⟨by rfl, ?_⟩) (by assumption) ?_
          rotate_left
          · intro w hSw; (try dsimp only at hSw); go_simp; all_goals (with_reducible rfl)
          simp only [Act.put, List.setIfInBounds_toArray, List.set_cons_zero, List.set_cons_succ]
          refine wpAnyH_takeD (i := 8) (d := some 128) (v := ?_) rfl rfl (by kernel_rfl) (by kernel_rfl) (by kernel_rfl) (fun _ _ _ h => h) (Or.inl ⟨by rfl, ?_⟩) (by assumption) ?_
          rotate_left
          · intro w hSw; (try dsimp only at hSw); go_simp; all_goals (with_reducible rfl)
          simp only [Act.put, List.setIfInBounds_toArray, List.set_cons_zero, List.set_cons_succ]
          refine wpAnyH_ready (rs := [9]) (by kernel_rfl) (by simp) ?_
          refine AllReadyH.cons (o := _) rfl (fun K hK => ?_) AllReadyH.nil
          go_simp
          have hkn : ks.length ≤ 1000 := by have := HM.out; omega
          refine (policyNew_any 85 (.agg #[]) 94 (.agg #[]) v6 v5 _ _ W2 (cls_small W2) HRE6.out HRE5.out (by rw [List.length_map]; omega) (by rw [List.length_map]; omega)
            (fun x hx => by
              obtain ⟨y, hy, rfl⟩ := List.mem_map.1 hx
              have := (HGO.out y hy).1
              unfold wrongE at this
              by_cases h : y.2.1.length < 1 ∨ 18 < y.2.1.length
              · rw [if_pos h] at this; cases this
              · omega)
            (fun x hx => by
              obtain ⟨y, hy, rfl⟩ := List.mem_map.1 hx
              exact (HGO.out y hy).2.1)).mono ?_
          rintro e W3 ⟨p, er, rfl, hor, hb3⟩
          rcases hor with ⟨rfl, xb, rfl⟩ | ⟨_, _, hno⟩
          · have HJ3 := Lib.hid (HJ2.out.below hb3)
            have d5 : W3.cell? ⟨cb, 5, none⟩ = some v5 := by have := HJ3.out.cs.blk.cell 5; simpa using this
            have d6 : W3.cell? ⟨cb, 6, none⟩ = some v6 := by have := HJ3.out.cs.blk.cell 6; simpa using this
            clear hb3 HJ2 HRE5 HRE6
            go_wp2_with fail
            refine hK.out _ _ ⟨d5, d6⟩ (fun hHeld => ?_)
            clear hK K d5 d6
            try simp only [Act.put, List.setIfInBounds_toArray, List.set_cons_zero, List.set_cons_succ]
            refine wpAnyH_takeD (i := 10) (d := some 119) (v := ?_) rfl rfl (by kernel_rfl) (by kernel_rfl) (by kernel_rfl) (fun _ _ _ h => h) (Or.inl ⟨by rfl, ?_⟩) (by assumption) ?_
            rotate_left
            · intro w hSw; (try dsimp only at hSw); go_simp; all_goals (with_reducible rfl)
            simp only [Act.put, List.setIfInBounds_toArray, List.set_cons_zero, List.set_cons_succ]
            refine wpAnyH_takeD (i := 11) (d := some 130) (v := ?_) rfl rfl (by kernel_rfl) (by kernel_rfl) (by kernel_rfl) (fun _ _ _ h => h) (Or.inl ⟨by rfl, ?_⟩) (by assumption) ?_
            rotate_left
            · intro w hSw; (try dsimp only at hSw); go_simp; all_goals (with_reducible rfl)
            simp only [Act.put, List.setIfInBounds_toArray, List.set_cons_zero, List.set_cons_succ]
            refine wpAnyH_takeD (i := 12) (d := some 131) (v := ?_) rfl rfl (by kernel_rfl) (by kernel_rfl) (by kernel_rfl) (fun _ _ _ h => h) (Or.inl ⟨by rfl, ?_⟩) (by assumption) ?_
            rotate_left
            · intro w hSw; (try dsimp only at hSw); go_simp; all_goals (with_reducible rfl)
            simp only [Act.put, List.setIfInBounds_toArray, List.set_cons_zero, List.set_cons_succ]
            refine wpAnyH_takeD (i := 13) (d := some 18) (v := ?_) rfl rfl (by kernel_rfl) (by kernel_rfl) (by kernel_rfl) (fun _ _ _ h => h) (Or.inl ⟨by rfl, ?_⟩) (by assumption) ?_
            rotate_left
            · intro w hSw; (try dsimp only at hSw); go_simp; all_goals (with_reducible rfl)
            simp only [Act.put, List.setIfInBounds_toArray, List.set_cons_zero, List.set_cons_succ]
            refine wpAnyH_takeD (i := 14) (d := some 19) (v := ?_) rfl rfl (by kernel_rfl) (by kernel_rfl) (by kernel_rfl) (fun _ _ _ h => h) (Or.inl ⟨by rfl, ?_⟩) (by assumption) ?_
            rotate_left
            · intro w hSw; (try dsimp only at hSw); go_simp; all_goals (with_reducible rfl)
            simp only [Act.put, List.setIfInBounds_toArray, List.set_cons_zero, List.set_cons_succ]
            refine wpAnyH_done (by kernel_rfl) ?_ _
            clear hHeld
            have d0 : W3.cell? ⟨cb, 0, none⟩ = some (.pointer none) := by have := HJ3.out.cs.blk.cell 0; simpa using this
            have f0 := HJ3.out.cs.blk.frozen 0
            have HEND := Lib.hid (show CsI cb tm hm (.pointer (some ⟨xb, 0, none⟩)) smallV (.slice oa i oc) v5 v6 psi (headB psi) (2000 * i) (W3.setCell ⟨cb, 0, none⟩ (.pointer (some ⟨xb, 0, none⟩))) ∧ OwnM w.heap.size (W3.setCell ⟨cb, 0, none⟩ (.pointer (some ⟨xb, 0, none⟩))) (.slice oa i oc) rs ∧ Below w.heap.size w (W3.setCell ⟨cb, 0, none⟩ (.pointer (some ⟨xb, 0, none⟩))) from by
              obtain ⟨h1, h2, h3, h4⟩ := HJ3.out.ord
              have hk : Keep (fun j => j = cb) W3 (W3.setCell ⟨cb, 0, none⟩ (.pointer (some ⟨xb, 0, none⟩))) := Keep.of_setCell _ _ _ _
              obtain ⟨nt, D1, hn, hD, hT⟩ := HJ3.out.cs.tex
              obtain ⟨nh, D2, hn2, hD2, hT2⟩ := HJ3.out.cs.hea
              obtain ⟨es, cl, he, hr⟩ := hD
              obtain ⟨es2, cl2, he2, hr2⟩ := hD2
              exact ⟨⟨HJ3.out.cs.blk.set 0 _, ⟨nt, D1, hn, ⟨es, cl, (hk.block tm (Array.getElem?_eq_some_iff.1 he).1 (by omega)).trans he, hr⟩, hT⟩, ⟨nh, D2, hn2, ⟨es2, cl2, (hk.block hm (Array.getElem?_eq_some_iff.1 he2).1 (by omega)).trans he2, hr2⟩, hT2⟩, HJ3.out.cs.ne⟩, ownsRow_keepN HJ3.out.own hk (fun j e hj => by have := HJ3.out.outlt j e; omega), HJ3.out.bel.trans (hk.below HJ3.out.bel.size (fun j e => by omega))⟩)
            go_wp2
            go_ret3
            exact ⟨_, _, _, rfl, .inl ⟨rfl, HOK.out.1, cb, tm, hm, _, _, _, _, _, rfl, by rw [HOK.out.2]; exact HEND.out.1, HEND.out.2.1⟩, HEND.out.2.2⟩
          · exact absurd HPO.out hno

end Go.Proofs.YtplobpelhcagpaaDoor
