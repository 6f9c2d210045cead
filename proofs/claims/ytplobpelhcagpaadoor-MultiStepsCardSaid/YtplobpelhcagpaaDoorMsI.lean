/-
  Multi: the builder that is the first field of an answer.
-/
import Derived.Test.YtplobpelhcagpaaDoorMsH
import Derived.Shelf.Strings.Builder1
import Derived.Laws.Externs
namespace Go.Proofs.YtplobpelhcagpaaDoor
open Go.RowKit Go.Shelf Pl14

abbrev Bytes := List UInt8
/-- faults' cells -/
def fltC (fs : List (Int × Int)) : List Value := fs.flatMap fun f => [.int .i64 f.1, .int .i64 f.2]
theorem fltC_len (fs : List (Int × Int)) : (fltC fs).length = 2 * fs.length := by
  induction fs with
  | nil => rfl
  | cons x fs ih =>
    show ([_, _] ++ fltC fs).length = _
    rw [List.length_append, ih]; simp; omega
theorem fltC_snoc (fs : List (Int × Int)) (f : Int × Int) : fltC (fs ++ [f]) = fltC fs ++ [.int .i64 f.1, .int .i64 f.2] := by simp [fltC]

/-- faults that a slice holds -/
def OwnF (B : Nat) (w : World) (v : Value) (fs : List (Int × Int)) : Prop := w.ownsRow B 49 2 v fs.length (fltC fs)
/-- all rows of faults are kept -/
def FltKept (w w' : World) : Prop := ∀ B v fs, OwnF B w v fs → OwnF B w' v fs
/-- an answer that is written -/
def Ans (B ab : Nat) (w : World) (bs : Bytes) (fs : List (Int × Int)) : Prop :=
  ∃ pv bv fv, (pv = .pointer none ∨ pv = .pointer (some ⟨ab, 0, none⟩)) ∧ Blk w ab #[pv, bv, fv] 91 ∧ w.ownsRow B 5 1 bv bs.length (Lib.byteCells bs) ∧ (bs = [] → bv = .slice none 0 0) ∧ OwnF B w fv fs ∧ B ≤ ab

theorem OwnF.nil (B : Nat) (w : World) : OwnF B w (.slice none 0 0) [] := World.ownsRow_nil w B 49 2
theorem ownsRow_below {w w' : World} {B e sz n m : Nat} {v : Value} {xs : List Value} (h : w.ownsRow B e sz v n xs) (hb : Below m w w') (hm : m = w.heap.size) : w'.ownsRow B e sz v n xs := by
  subst hm
  exact h.kept (below_grown hb) (by cases v.ownBlock <;> simp)
theorem Ans.below {B ab : Nat} {w w' : World} {bs : Bytes} {fs : List (Int × Int)} (h : Ans B ab w bs fs) {m : Nat} (hb : Below m w w') (hm : m = w.heap.size) : Ans B ab w' bs fs := by
  obtain ⟨pv, bv, fv, h1, h2, h3, h4, h5, h6⟩ := h
  exact ⟨pv, bv, fv, h1, h2.below hb (by rw [hm]; exact h2.lt), ownsRow_below h3 hb hm, h4, ownsRow_below h5 hb hm, h6⟩
theorem Ans.new (w : World) : Ans w.heap.size w.heap.size (w.alloc (.cells #[.pointer none, .slice none 0 0, .slice none 0 0] 91)) [] [] :=
  ⟨_, _, _, .inl rfl, Blk.new _ _ _, World.ownsRow_nil _ _ _ _, fun _ => rfl, OwnF.nil _ _, Nat.le_refl _⟩
theorem ownsRow_keepN {w w' : World} {B e sz n : Nat} {v : Value} {xs : List Value} {S : Nat → Prop} (h : w.ownsRow B e sz v n xs) (hk : Keep S w w') (hs : ∀ j, v.ownBlock = some j → ¬ S j) : w'.ownsRow B e sz v n xs := by
  refine ⟨h.1, ?_⟩
  rcases h.2 with h2 | ⟨g, cap, cur, rfl, hB, hg, hnc, hcm, hcs, htk⟩
  · exact .inl h2
  · exact .inr ⟨g, cap, cur, rfl, hB, (hk.block g (Array.getElem?_eq_some_iff.1 hg).1 (hs g rfl)).trans hg, hnc, hcm, hcs, htk⟩
theorem Ans.keep {B ab : Nat} {w w' : World} {bs : Bytes} {fs : List (Int × Int)} {S : Nat → Prop} (h : Ans B ab w bs fs) (hk : Keep S w w') (hs : ∀ j, B ≤ j → ¬ S j) : Ans B ab w' bs fs := by
  obtain ⟨pv, bv, fv, h1, h2, h3, h4, h5, h6⟩ := h
  refine ⟨pv, bv, fv, h1, h2.keep hk (hs ab h6), ownsRow_keepN h3 hk (fun j e => hs j (World.ownsRow.lt h3 j e).1), h4, ownsRow_keepN h5 hk (fun j e => hs j (World.ownsRow.lt h5 j e).1), h6⟩

theorem FltKept.trans {a b c : World} (h : FltKept a b) (k : FltKept b c) : FltKept a c := fun B v fs x => k B v fs (h B v fs x)
theorem FltKept.of_blk {w w' : World} {ab : Nat} {cs : Array Value} {T : TypeId} (hb : Blk w ab cs T) (hT : T ≠ 49) (hk : Keep (fun j => j = ab) w w') : FltKept w w' := fun B v fs x => ownsRow_keepN x hk (fun j e h => blk_ne_row hb x hT (by rw [e, h]))
theorem FltKept.of_grown {w w' : World} {B e sz n : Nat} {v : Value} {xs : List Value} (hr : w.ownsRow B e sz v n xs) (he : e ≠ 49) (hg : w.grownBy w' v.ownBlock) : FltKept w w' := fun B v fs x => World.ownsRow.kept x hg (rows_ne x hr (fun h => he h.symm))
theorem FltKept.of_below {w w' : World} {n : Nat} (hb : Below n w w') (hn : n = w.heap.size) : FltKept w w' := fun B v fs x => ownsRow_below x hb hn
theorem infoBuilder : ∃ j, Tryd.prog.info? 89 = some j ∧ j.size = 2 := by
  have : (Tryd.prog.info? 89).map (·.size) = some 2 := by kernel_rfl
  exact Option.map_eq_some_iff.1 this

set_option maxRecDepth 100000 in
set_option maxHeartbeats 1000000 in
theorem copyCheck_any (ab : Nat) (pv bv fv : Value) (w : World) (hp : pv = .pointer none ∨ pv = .pointer (some ⟨ab, 0, none⟩)) (hb : Blk w ab #[pv, bv, fv] 91) :
    Calls Tryd.prog 49 #[.pointer (some ⟨ab, 0, none⟩)] w fun e w' => e = .returned (.tuple #[]) ∧ Blk w' ab #[.pointer (some ⟨ab, 0, none⟩), bv, fv] 91 ∧ Keep (fun j => j = ab) w w' := by
  have hsh : w.shape? ab = some (91, 3) := by
    have : w.heap[ab]? = _ := hb
    simp [World.shape?, this]
  have hf := hb.frozen 0
  have HB := Lib.hid hb
  rcases hp with rfl | rfl
  · have c0 : w.cell? ⟨ab, 0, none⟩ = some (.pointer none) := by have := hb.cell 0; simpa using this
    obtain ⟨j, hj, hjs⟩ := infoBuilder
    clear hb
    go_enter Tryd.func49, Tryd.ntmps49
    go_wp2
    rw [Lib.run_to_unsafe w ⟨ab, 0, none⟩ Tryd.underlying86 Tryd.underlying143 hj (by rw [hjs]; decide) hsh (Nat.zero_lt_succ 2)]
    simp only [Result.andThen]
    rw [Oper.upon_value]
    go_wp2
    rw [run_callFunc_extern Tryd.func62 (by kernel_rfl) (by kernel_rfl) (by kernel_rfl) (e := Extern.AbiNoEscape.same) (by kernel_rfl)]
    rw [Lib.run_noEscape]
    simp only [Result.andThen]
    rw [Oper.upon_value]
    go_wp2
    rw [Lib.run_from_unsafe w ⟨ab, 0, none⟩ Tryd.underlying143 Tryd.underlying86 hj hsh (by kernel_rfl)]
    simp only [Result.andThen]
    rw [Oper.upon_value]
    go_wp2
    refine bodyPost_end (v := .tuple #[]) (results_none (by rfl) _ _ _) (by rfl) ?_
    refine ⟨rfl, HB.out.set 0 _, Keep.of_setCell _ _ _ _⟩
  · have c0 : w.cell? ⟨ab, 0, none⟩ = some (.pointer (some ⟨ab, 0, none⟩)) := by have := hb.cell 0; simpa using this
    obtain ⟨j, hj, hjs⟩ := infoBuilder
    clear hb
    go_enter Tryd.func49, Tryd.ntmps49
    go_wp2
    rw [Lib.run_neq_ptr_same w _ Tryd.underlying86 hj]
    go_wp2
    go_end0
    exact ⟨rfl, HB.out, Keep.refl _ _⟩

theorem byteI : ∃ i, Tryd.prog.info? 5 = some i ∧ i.zero = some (.int .u8 0) ∧ i.size = 1 ∧ i.bytes = 1 :=
  info_parts (by kernel_rfl)

set_option maxRecDepth 100000 in
set_option maxHeartbeats 2000000 in
theorem writeString_any (B ab : Nat) (bs : Bytes) (fs : List (Int × Int)) (s : ByteArray) (w : World) (h : Ans B ab w bs fs) (hlen : bs.length + s.size ≤ 140737488355328) (hBw : B ≤ w.heap.size) :
    Calls Tryd.prog 31 #[.pointer (some ⟨ab, 0, none⟩), .string s] w fun e w' => e = .returned (.tuple #[.int .i64 s.size, .nilIface]) ∧ Ans B ab w' (bs ++ s.data.toList) fs ∧ Below B w w' ∧ FltKept w w' := by
  obtain ⟨i0, hi, hz0, hz1, hz2⟩ := byteI
  obtain ⟨pv, bv, fv, h1, h2, h3, h4, h5, h6⟩ := h
  have H2 := Lib.hid h2; clear h2
  have H3 := Lib.hid h3; clear h3
  have H4 := Lib.hid h4; clear h4
  have H5 := Lib.hid h5; clear h5
  go_enter Tryd.func31, Tryd.ntmps31
  go_wp2_with fail
  refine (copyCheck_any ab pv bv fv w h1 H2.out).mono ?_
  rintro e w1 ⟨rfl, hb1, hk1⟩
  have hx3 := ownsRow_keepN H3.out hk1 (fun j e h => blk_ne_row H2.out H3.out (by decide) (by rw [e, h]))
  have hx5 := ownsRow_keepN H5.out hk1 (fun j e h => blk_ne_row H2.out H5.out (by decide) (by rw [e, h]))
  have c1 : w1.cell? ⟨ab, 1, none⟩ = some bv := by have := hb1.cell 1; simpa using this
  have HB1 := Lib.hid hb1; clear hb1
  have HX3 := Lib.hid hx3; clear hx3
  have HX5 := Lib.hid hx5; clear hx5
  have HK1 := Lib.hid hk1; clear hk1
  have hs1 := HK1.out.size
  go_wp2_with (at_builtin; refine Lib.wpList_append_own_string _ rfl _ _ 87 9 rfl B 5 i0 Tryd.underlying87 Tryd.underlying9 hi hz0 hz1 hz2 _ _ _ rfl HX3.out s rfl ?c3 ?c4 ?c5 ?_)
  case c3 => unfold maxLen; omega
  case c4 => omega
  case c5 => omega
  intro v' w2 hown' hgr hnil
  have hb2 := HB1.out.grown hgr (blk_ne_row HB1.out HX3.out (by decide))
  have hx52 := World.ownsRow.kept HX5.out hgr (rows_ne HX5.out HX3.out (by decide))
  have d0 : w2.cell? ⟨ab, 0, none⟩ = some (.pointer (some ⟨ab, 0, none⟩)) := by have := hb2.cell 0; simpa using this
  have f1 := hb2.frozen 1
  have HB2 := Lib.hid hb2; clear hb2
  have HX52 := Lib.hid hx52; clear hx52
  have HO := Lib.hid hown'; clear hown'
  have HN := Lib.hid hnil; clear hnil
  have hbel : Below B w w2 := (HK1.out.below hBw (fun j e => by omega)).grown hgr (by omega) (fun k e => (World.ownsRow.lt HX3.out k e).1)
  have HFK := Lib.hid ((FltKept.of_blk H2.out (by decide) HK1.out).trans (FltKept.of_grown HX3.out (by decide) hgr))
  have HBEL := Lib.hid hbel; clear hbel hgr
  have d1 : w2.shape? ab = some (91, 3) := by
    have : w2.heap[ab]? = _ := HB2.out
    simp [World.shape?, this]
  have e1 : w2.cell? ⟨ab, 1, none⟩ = some bv := by have := HB2.out.cell 1; simpa using this
  obtain ⟨va, vc, rfl, _⟩ := ownsRow_shapeN HO.out
  obtain ⟨vn, hvn⟩ : ∃ n, bs.length + s.size = n := ⟨_, rfl⟩
  rw [hvn] at HO HN ⊢
  go_wp2
  go_ret2
  have hsl : (bs ++ s.data.toList).length = bs.length + s.size := by rw [List.length_append, size_toList]
  have hk : Keep (fun j => j = ab) w2 (w2.setCell ⟨ab, 1, none⟩ (.slice va vn vc)) := Keep.of_setCell _ _ _ _
  refine ⟨rfl, ⟨_, _, fv, .inr rfl, HB2.out.set 1 _, ?_, ?_, ?_, h6⟩, HBEL.out.setCell (p := ⟨ab, 1, none⟩) h6 _, HFK.out.trans (FltKept.of_blk HB2.out (by decide) hk)⟩
  · have := ownsRow_keepN HO.out hk (fun j e h => blk_ne_row HB2.out HO.out (by decide) (by rw [e, h]))
    rw [hsl, hvn, Lib.byteCells_append, ← Lib.strCells_eq]
    exact this
  · intro h
    have h1 : bs = [] ∧ s.data.toList = [] := by simpa using h
    exact HN.out.2 ⟨H4.out h1.1, ByteArray.size_eq_zero_iff.1 (by rw [size_toList, h1.2]; rfl)⟩
  · exact ownsRow_keepN HX52.out hk (fun j e h => blk_ne_row HB2.out HX52.out (by decide) (by rw [e, h]))

theorem byteCells_take (l : Bytes) : (Lib.byteCells l).length = l.length := Lib.byteCells_length l

set_option maxRecDepth 100000 in
set_option maxHeartbeats 4000000 in
theorem string_of (B ab : Nat) (bs : Bytes) (pv bv fv : Value) (w : World) (h2 : Blk w ab #[pv, bv, fv] 91) (h3 : w.ownsRow B 5 1 bv bs.length (Lib.byteCells bs)) (h4 : bs = [] → bv = .slice none 0 0) :
    Calls Tryd.prog 32 #[.pointer (some ⟨ab, 0, none⟩)] w fun e w' => e = .returned (.string ⟨bs.toArray⟩) ∧ Below B w w' ∧ Blk w' ab #[pv, bv, fv] 91 ∧ FltKept w w' := by
  have H2 := Lib.hid h2; clear h2
  have H3 := Lib.hid h3; clear h3
  have c1 : w.drew.cell? ⟨ab, 1, none⟩ = some bv := by have := H2.out.cell 1; simpa using this
  by_cases h0 : bs = []
  · have hbv := h4 h0
    subst h0
    subst hbv
    clear h4
    have hSD : (Builtin.unsafeSliceData_ #[87] 127 #[.slice none 0 0]).run Tryd.prog w.drew = .ok (.pointer none) w.drew := rfl
    have hUS : (Builtin.unsafeString_ #[127, 3] 9 #[.pointer none, .int .i64 0]).run Tryd.prog w.drew = .ok (.string .empty) w.drew := Lib.run_unsafeString_none w.drew _ _ _ none
    go_enter Tryd.func32, Tryd.ntmps32
    go_wp2_with fail
    have hS0 : w.drew.cell? ⟨ab, 1, none⟩ = some (.slice none 0 0) := c1
    refine wp_region_held_drew (S := fun w' => w'.cell? ⟨ab, 1, none⟩ = some (.slice none 0 0)) (by kernel_rfl) hS0 (fun hHeld => ?_)
    clear hS0 c1
    refine wpAnyH_takeD (i := 0) (d := some 3) (v := ?_) rfl rfl (by kernel_rfl) (by kernel_rfl) (by kernel_rfl) (fun _ _ _ h => h) (Or.inl ⟨by rfl, ?_⟩) (by assumption) ?_
    rotate_left
    · intro w hSw; (try dsimp only at hSw); go_simp; all_goals (with_reducible rfl)
    simp only [Act.put, List.setIfInBounds_toArray, List.set_cons_zero, List.set_cons_succ]
    refine wpAnyH_takeD (i := 1) (d := some 4) (v := ?_) rfl rfl (by kernel_rfl) (by kernel_rfl) (by kernel_rfl) (fun _ _ _ h => h) (Or.inl ⟨by rfl, ?_⟩) (by assumption) ?_
    rotate_left
    · intro w hSw; (try dsimp only at hSw); go_simp; all_goals (with_reducible rfl)
    simp only [Act.put, List.setIfInBounds_toArray, List.set_cons_zero, List.set_cons_succ]
    refine wpAnyH_takeD (i := 2) (d := some 5) (v := ?_) rfl rfl (by kernel_rfl) (by kernel_rfl) (by kernel_rfl) (fun _ _ _ h => h) (Or.inl ⟨by rfl, ?_⟩) (by assumption) ?_
    rotate_left
    · intro w hSw; (try dsimp only at hSw); go_simp; all_goals (with_reducible rfl)
    simp only [Act.put, List.setIfInBounds_toArray, List.set_cons_zero, List.set_cons_succ]
    refine wpAnyH_takeD (i := 3) (d := some 6) (v := ?_) rfl rfl (by kernel_rfl) (by kernel_rfl) (by kernel_rfl) (fun _ _ _ h => h) (Or.inl ⟨by rfl, ?_⟩) (by assumption) ?_
    rotate_left
    · intro w hSw; (try dsimp only at hSw); go_simp; all_goals (with_reducible rfl)
    simp only [Act.put, List.setIfInBounds_toArray, List.set_cons_zero, List.set_cons_succ]
    refine wpAnyH_takeD (i := 5) (d := some 8) (v := ?_) rfl rfl (by kernel_rfl) (by kernel_rfl) (by kernel_rfl) (fun _ _ _ h => h) (Or.inl ⟨by rfl, ?_⟩) (by assumption) ?_
    rotate_left
    · intro w hSw; (try dsimp only at hSw); go_simp; all_goals (with_reducible rfl)
    simp only [Act.put, List.setIfInBounds_toArray, List.set_cons_zero, List.set_cons_succ]
    refine wpAnyH_takeD (i := 6) (d := some 9) (v := ?_) rfl rfl (by kernel_rfl) (by kernel_rfl) (by kernel_rfl) (fun _ _ _ h => h) (Or.inl ⟨by rfl, ?_⟩) (by assumption) ?_
    rotate_left
    · intro w hSw; (try dsimp only at hSw); go_simp; all_goals (with_reducible rfl)
    simp only [Act.put, List.setIfInBounds_toArray, List.set_cons_zero, List.set_cons_succ]
    refine wpAnyH_takeD (i := 7) (d := some 10) (v := ?_) rfl rfl (by kernel_rfl) (by kernel_rfl) (by kernel_rfl) (fun _ _ _ h => h) (Or.inl ⟨by rfl, ?_⟩) (by assumption) ?_
    rotate_left
    · intro w hSw; (try dsimp only at hSw); go_simp; all_goals (with_reducible rfl)
    simp only [Act.put, List.setIfInBounds_toArray, List.set_cons_zero, List.set_cons_succ]
    refine wpAnyH_takeD (i := 8) (d := some 11) (v := ?_) rfl rfl (by kernel_rfl) (by kernel_rfl) (by kernel_rfl) (fun _ _ _ h => h) (Or.inl ⟨by rfl, ?_⟩) (by assumption) ?_
    rotate_left
    · intro w hSw; (try dsimp only at hSw); go_simp; all_goals (with_reducible rfl)
    simp only [Act.put, List.setIfInBounds_toArray, List.set_cons_zero, List.set_cons_succ]
    refine wpAnyH_takeD (i := 9) (d := some 12) (v := ?_) rfl rfl (by kernel_rfl) (by kernel_rfl) (by kernel_rfl) (fun _ _ _ h => h) (Or.inl ⟨by rfl, ?_⟩) (by assumption) ?_
    rotate_left
    · intro w hSw; (try dsimp only at hSw); go_simp; all_goals (with_reducible rfl)
    simp only [Act.put, List.setIfInBounds_toArray, List.set_cons_zero, List.set_cons_succ]
    refine wpAnyH_ready (rs := [4]) (by kernel_rfl) (by simp) ?_
    refine AllReadyH.cons (o := _) rfl (fun K hK => ?_) AllReadyH.nil
    go_simp
    refine hK.out _ _ hHeld (fun hHeld => ?_)
    clear hK K
    try simp only [Act.put, List.setIfInBounds_toArray, List.set_cons_zero, List.set_cons_succ]
    refine wpAnyH_ready (rs := [10]) (by kernel_rfl) (by simp) ?_
    refine AllReadyH.cons (o := _) rfl (fun K hK => ?_) AllReadyH.nil
    go_simp
    refine hK.out _ _ hHeld (fun hHeld => ?_)
    clear hK K
    try simp only [Act.put, List.setIfInBounds_toArray, List.set_cons_zero, List.set_cons_succ]
    refine wpAnyH_takeD (i := 11) (d := some 2) (v := ?_) rfl rfl (by kernel_rfl) (by kernel_rfl) (by kernel_rfl) (fun _ _ _ h => h) (Or.inl ⟨by rfl, ?_⟩) (by assumption) ?_
    rotate_left
    · intro w hSw; (try dsimp only at hSw); go_simp; all_goals (with_reducible rfl)
    simp only [Act.put, List.setIfInBounds_toArray, List.set_cons_zero, List.set_cons_succ]
    refine wpAnyH_done (by kernel_rfl) ?_ _
    clear hHeld hSD hUS
    go_wp2
    go_ret
    exact ⟨rfl, Below.drew (Below.refl B w), H2.out, FltKept.of_below (Below.drew (Below.refl w.heap.size w)) rfl⟩
  · have hl0 : bs.length ≠ 0 := by simpa using h0
    obtain ⟨g, cap, cur, rfl, hbg, hg, hnc, hcm, hcs, htake⟩ : ∃ g cap cur, bv = .slice (some ⟨g, 0, none⟩) bs.length cap ∧ B ≤ g ∧ w.heap[g]? = some (.cells cur 5 (0, 0)) ∧ bs.length ≤ cap ∧ cap ≤ maxLen ∧ cur.size = cap * 1 ∧ cur.toList.take (bs.length * 1) = Lib.byteCells bs := by
      rcases H3.out.2 with ⟨_, hz⟩ | ⟨g, cap, cur, hv, r⟩
      · exact absurd hz hl0
      · exact ⟨g, cap, cur, hv, r⟩
    have hSD : (Builtin.unsafeSliceData_ #[87] 127 #[.slice (some ⟨g, 0, none⟩) bs.length cap]).run Tryd.prog w.drew = .ok (.pointer (some ⟨g, 0, none⟩)) w.drew := Lib.run_unsafeSliceData_row _ _ _ _ _ _ (by omega)
    have hUS : (Builtin.unsafeString_ #[127, 3] 9 #[.pointer (some ⟨g, 0, none⟩), .int .i64 bs.length]).run Tryd.prog w.drew = .ok (.string ⟨bs.toArray⟩) (w.drew.freeze ⟨g, 0, none⟩ bs.length) := by
      refine Lib.run_unsafeString_row w.drew 127 3 9 5 Tryd.underlying127 (by kernel_rfl) g cur.size (by have hg' : w.drew.heap[g]? = some (.cells cur 5 (0, 0)) := hg; simp [World.shape?, hg']) bs h0 (by omega) (by unfold maxLen at hcm; omega) ?_
      intro j x hx
      exact H3.out.cells (g := g) rfl j (.int .u8 x.toNat) (by simp [Lib.byteCells, hx])
    have hgab : ab ≠ g := fun e => blk_ne_row H2.out H3.out (by decide) (by simp [Value.ownBlock, e])
    have hkf : Keep (fun j => j = g) w.drew (w.drew.freeze ⟨g, 0, none⟩ bs.length) := by
      unfold World.freeze
      rw [if_neg hl0]
      exact ⟨rfl, rfl, rfl, by simp, fun k _ hk => by simp only [Array.getElem?_modify]; rw [if_neg (fun e => hk e.symm)]⟩
    have hbel : Below B w (w.drew.freeze ⟨g, 0, none⟩ bs.length) := Lib.below_freeze (Below.drew (Below.refl B w)) (p := ⟨g, 0, none⟩) hbg _
    have hb' := (show Blk w.drew ab _ _ from H2.out).keep hkf (fun e => hgab e)
    have hf' : FltKept w (w.drew.freeze ⟨g, 0, none⟩ bs.length) := (FltKept.of_below (Below.drew (Below.refl w.heap.size w)) rfl).trans (fun B v fs x => ownsRow_keepN x hkf (fun j e h => by
      rcases rows_ne (show w.ownsRow _ _ _ _ _ _ from x) H3.out (by decide) with h' | h'
      · rw [h'] at e; cases e
      · exact h' (by rw [e, h]; rfl)))
    have HF := Lib.hid hf'; clear hf'
    have HB' := Lib.hid hb'; clear hb'
    have HBEL := Lib.hid hbel; clear hbel
    obtain ⟨WF, hWF⟩ : ∃ W, w.drew.freeze ⟨g, 0, none⟩ bs.length = W := ⟨_, rfl⟩
    rw [hWF] at hUS HF HB' HBEL
    clear hWF hkf H3 hg htake hcs hgab h4
    have c1' : WF.cell? ⟨ab, 1, none⟩ = some (.slice (some ⟨g, 0, none⟩) bs.length cap) := by have := HB'.out.cell 1; simpa using this
    go_enter Tryd.func32, Tryd.ntmps32
    go_wp2_with fail
    have hS0 : w.drew.cell? ⟨ab, 1, none⟩ = some (.slice (some ⟨g, 0, none⟩) bs.length cap) := c1
    refine wp_region_held_drew (S := fun w' => w'.cell? ⟨ab, 1, none⟩ = some (.slice (some ⟨g, 0, none⟩) bs.length cap)) (by kernel_rfl) hS0 (fun hHeld => ?_)
    clear hS0 c1
    refine wpAnyH_takeD (i := 0) (d := some 3) (v := ?_) rfl rfl (by kernel_rfl) (by kernel_rfl) (by kernel_rfl) (fun _ _ _ h => h) (Or.inl ⟨by rfl, ?_⟩) (by assumption) ?_
    rotate_left
    · intro w hSw; (try dsimp only at hSw); go_simp; all_goals (with_reducible rfl)
    simp only [Act.put, List.setIfInBounds_toArray, List.set_cons_zero, List.set_cons_succ]
    refine wpAnyH_takeD (i := 1) (d := some 4) (v := ?_) rfl rfl (by kernel_rfl) (by kernel_rfl) (by kernel_rfl) (fun _ _ _ h => h) (Or.inl ⟨by rfl, ?_⟩) (by assumption) ?_
    rotate_left
    · intro w hSw; (try dsimp only at hSw); go_simp; all_goals (with_reducible rfl)
    simp only [Act.put, List.setIfInBounds_toArray, List.set_cons_zero, List.set_cons_succ]
    refine wpAnyH_takeD (i := 2) (d := some 5) (v := ?_) rfl rfl (by kernel_rfl) (by kernel_rfl) (by kernel_rfl) (fun _ _ _ h => h) (Or.inl ⟨by rfl, ?_⟩) (by assumption) ?_
    rotate_left
    · intro w hSw; (try dsimp only at hSw); go_simp; all_goals (with_reducible rfl)
    simp only [Act.put, List.setIfInBounds_toArray, List.set_cons_zero, List.set_cons_succ]
    refine wpAnyH_takeD (i := 3) (d := some 6) (v := ?_) rfl rfl (by kernel_rfl) (by kernel_rfl) (by kernel_rfl) (fun _ _ _ h => h) (Or.inl ⟨by rfl, ?_⟩) (by assumption) ?_
    rotate_left
    · intro w hSw; (try dsimp only at hSw); go_simp; all_goals (with_reducible rfl)
    simp only [Act.put, List.setIfInBounds_toArray, List.set_cons_zero, List.set_cons_succ]
    refine wpAnyH_takeD (i := 5) (d := some 8) (v := ?_) rfl rfl (by kernel_rfl) (by kernel_rfl) (by kernel_rfl) (fun _ _ _ h => h) (Or.inl ⟨by rfl, ?_⟩) (by assumption) ?_
    rotate_left
    · intro w hSw; (try dsimp only at hSw); go_simp; all_goals (with_reducible rfl)
    simp only [Act.put, List.setIfInBounds_toArray, List.set_cons_zero, List.set_cons_succ]
    refine wpAnyH_takeD (i := 6) (d := some 9) (v := ?_) rfl rfl (by kernel_rfl) (by kernel_rfl) (by kernel_rfl) (fun _ _ _ h => h) (Or.inl ⟨by rfl, ?_⟩) (by assumption) ?_
    rotate_left
    · intro w hSw; (try dsimp only at hSw); go_simp; all_goals (with_reducible rfl)
    simp only [Act.put, List.setIfInBounds_toArray, List.set_cons_zero, List.set_cons_succ]
    refine wpAnyH_takeD (i := 7) (d := some 10) (v := ?_) rfl rfl (by kernel_rfl) (by kernel_rfl) (by kernel_rfl) (fun _ _ _ h => h) (Or.inl ⟨by rfl, ?_⟩) (by assumption) ?_
    rotate_left
    · intro w hSw; (try dsimp only at hSw); go_simp; all_goals (with_reducible rfl)
    simp only [Act.put, List.setIfInBounds_toArray, List.set_cons_zero, List.set_cons_succ]
    refine wpAnyH_takeD (i := 8) (d := some 11) (v := ?_) rfl rfl (by kernel_rfl) (by kernel_rfl) (by kernel_rfl) (fun _ _ _ h => h) (Or.inl ⟨by rfl, ?_⟩) (by assumption) ?_
    rotate_left
    · intro w hSw; (try dsimp only at hSw); go_simp; all_goals (with_reducible rfl)
    simp only [Act.put, List.setIfInBounds_toArray, List.set_cons_zero, List.set_cons_succ]
    refine wpAnyH_takeD (i := 9) (d := some 12) (v := ?_) rfl rfl (by kernel_rfl) (by kernel_rfl) (by kernel_rfl) (fun _ _ _ h => h) (Or.inl ⟨by rfl, ?_⟩) (by assumption) ?_
    rotate_left
    · intro w hSw; (try dsimp only at hSw); go_simp; all_goals (with_reducible rfl)
    simp only [Act.put, List.setIfInBounds_toArray, List.set_cons_zero, List.set_cons_succ]
    refine wpAnyH_ready (rs := [4]) (by kernel_rfl) (by simp) ?_
    refine AllReadyH.cons (o := _) rfl (fun K hK => ?_) AllReadyH.nil
    go_simp
    refine hK.out _ _ hHeld (fun hHeld => ?_)
    clear hK K
    try simp only [Act.put, List.setIfInBounds_toArray, List.set_cons_zero, List.set_cons_succ]
    refine wpAnyH_ready (rs := [10]) (by kernel_rfl) (by simp) ?_
    refine AllReadyH.cons (o := _) rfl (fun K hK => ?_) AllReadyH.nil
    go_simp
    refine hK.out _ _ c1' (fun hHeld => ?_)
    clear hK K
    try simp only [Act.put, List.setIfInBounds_toArray, List.set_cons_zero, List.set_cons_succ]
    refine wpAnyH_takeD (i := 11) (d := some 2) (v := ?_) rfl rfl (by kernel_rfl) (by kernel_rfl) (by kernel_rfl) (fun _ _ _ h => h) (Or.inl ⟨by rfl, ?_⟩) (by assumption) ?_
    rotate_left
    · intro w hSw; (try dsimp only at hSw); go_simp; all_goals (with_reducible rfl)
    simp only [Act.put, List.setIfInBounds_toArray, List.set_cons_zero, List.set_cons_succ]
    refine wpAnyH_done (by kernel_rfl) ?_ _
    clear hHeld hSD hUS
    go_wp2
    go_ret
    exact ⟨rfl, HBEL.out, HB'.out, HF.out⟩

theorem string_any (B ab : Nat) (bs : Bytes) (fs : List (Int × Int)) (w : World) (h : Ans B ab w bs fs) (hBw : B ≤ w.heap.size) :
    Calls Tryd.prog 32 #[.pointer (some ⟨ab, 0, none⟩)] w fun e w' => e = .returned (.string ⟨bs.toArray⟩) ∧ Below B w w' ∧ ∃ pv bv fv, Blk w' ab #[pv, bv, fv] 91 ∧ OwnF B w' fv fs ∧ w.cell? ⟨ab, 2, none⟩ = some fv := by
  obtain ⟨pv, bv, fv, h1, h2, h3, h4, h5, h6⟩ := h
  refine (string_of B ab bs pv bv fv w h2 h3 h4).mono ?_
  rintro e w' ⟨rfl, hb, hbk, hk⟩
  exact ⟨rfl, hb, pv, bv, fv, hbk, hk _ _ _ h5, by have := h2.cell 2; simpa using this⟩

theorem run_appF (B B' : Nat) (w : World) (v vx : Value) (fs gs : List (Int × Int)) (h : OwnF B w v fs) (hx : OwnF B' w vx gs) (hn : fs.length + gs.length ≤ 1000000000) (hB : B ≤ w.heap.size) :
    ∃ v' w', (Builtin.append_ #[35, 35] 35 #[v, vx]).run Tryd.prog w = .ok v' w' ∧ OwnF B w' v' (fs ++ gs) ∧ w.grownBy w' v.ownBlock := by
  have EF := ElemN.mk' (P := Tryd.prog) (t := 35) (e := 49) (z := .agg #[.int .i64 0, .int .i64 0]) (size := 2) (bytes := 16) Tryd.underlying35 rfl (by decide) (by kernel_rfl)
  obtain ⟨i, hi, hz, hsz, hby⟩ := EF.hi
  have hl : (fs ++ gs).length = fs.length + gs.length := List.length_append
  have hc : fltC (fs ++ gs) = fltC fs ++ fltC gs := by simp [fltC]
  unfold OwnF at *
  rw [hl, hc]
  obtain ⟨a, cap, hv, h1, h2, h3⟩ := ownsRow_shapeN hx
  rcases h3 with ⟨rfl, rfl, h0⟩ | ⟨g, rfl, _⟩
  · have hg : gs = [] := List.eq_nil_of_length_eq_zero h0
    subst hg
    subst hv
    exact ⟨v, w, run_append_owned_none (P := Tryd.prog) w B _ _ _ i 2 EF.ht hi v _ _ h, by simpa [fltC] using h, ⟨rfl, rfl, rfl, Nat.le_refl _, fun _ _ _ => rfl⟩⟩
  · subst hv
    obtain ⟨v', w', hr, ho, hg, _⟩ := run_append_own (P := Tryd.prog) w B 35 35 49 i _ 2 16 EF.ht hi hz hsz hby EF.hz EF.hs v fs.length (fltC fs) h ⟨g, 0, none⟩ gs.length cap (fltC gs) (by rw [fltC_len]; omega) (hx.cells (g := g) rfl)
      (fun u hu => by
        obtain ⟨f, _, hf⟩ := List.mem_flatMap.1 hu
        simp at hf
        rcases hf with rfl | rfl <;> rfl) (by unfold maxLen; omega) (by omega) hB
    exact ⟨v', w', hr, ho, hg⟩

end Go.Proofs.YtplobpelhcagpaaDoor
