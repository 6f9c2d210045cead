/-
  Multi: WriteRune of a Bad; a decoder's gone, close, fault.
-/
import Derived.Test.YtplobpelhcagpaaDoorMsI
import Derived.Test.YtplobpelhcagpaaDoorLibT
namespace Go.Proofs.YtplobpelhcagpaaDoor
open Go.RowKit Go.Shelf Pl14

/-- the bytes of a Bad -/
def badB : Bytes := [239, 191, 189]
theorem badCells : Lib.runeCells 65533 = Lib.byteCells badB := by rfl

set_option maxRecDepth 100000 in
set_option maxHeartbeats 4000000 in
theorem writeBad_any (B ab : Nat) (bs : Bytes) (fs : List (Int × Int)) (w : World) (h : Ans B ab w bs fs) (hlen : bs.length + 4 ≤ 140737488355328) (hBw : B ≤ w.heap.size) :
    Calls Tryd.prog 51 #[.pointer (some ⟨ab, 0, none⟩), .int .i32 65533] w fun e w' => ∃ v, e = .returned v ∧ Ans B ab w' (bs ++ badB) fs ∧ Below B w w' := by
  obtain ⟨pv, bv, fv, h1, h2, h3, h4, h5, h6⟩ := h
  have H2 := Lib.hid h2; clear h2
  have H3 := Lib.hid h3; clear h3
  have H5 := Lib.hid h5; clear h5 h4
  obtain ⟨n0, hn0⟩ : ∃ n : Nat, bs.length = n := ⟨_, rfl⟩
  rw [hn0] at H3 hlen
  go_enter Tryd.func51, Tryd.ntmps51
  go_wp2_with fail
  refine (copyCheck_any ab pv bv fv w h1 H2.out).mono ?_
  rintro e w1 ⟨rfl, hb1, hk1⟩
  have hx3 := ownsRow_keepN H3.out hk1 (fun j e h => blk_ne_row H2.out H3.out (by decide) (by rw [e, h]))
  have hx5 := ownsRow_keepN H5.out hk1 (fun j e h => blk_ne_row H2.out H5.out (by decide) (by rw [e, h]))
  have c1 : w1.cell? ⟨ab, 1, none⟩ = some bv := by have := hb1.cell 1; simpa using this
  have HB1 := Lib.hid hb1; clear hb1
  have HX3 := Lib.hid hx3; clear hx3
  have HX5 := Lib.hid hx5; clear hx5
  have HK1 := Lib.hid hk1; clear hk1
  have hs1 := HK1.out.size
  obtain ⟨ba, bc, rfl, _⟩ := ownsRow_shapeN HX3.out
  clear h1 H2 H3 H5
  go_wp2_with fail
  refine (Sh_utf8_AppendRune_plain B _ n0 (Lib.byteCells bs) 65533 (by decide) (by decide) w1 HX3.out (by omega) (by omega)).mono ?_
  rintro e w2 ⟨v', rfl, hown', o, hgr⟩
  rw [badCells] at hown'
  have hl3 : (Lib.byteCells badB).length = 3 := by rw [Lib.byteCells_length]; rfl
  rw [hl3] at hown'
  have hb2 := (HB1.out.grown (World.grownBy_alloc w1 o none) (by simp)).grown hgr (blk_ne_row HB1.out HX3.out (by decide))
  have hx52 := World.ownsRow.kept (World.ownsRow.alloc HX5.out o) hgr (rows_ne HX5.out HX3.out (by decide))
  have d0 : w2.cell? ⟨ab, 0, none⟩ = some (.pointer (some ⟨ab, 0, none⟩)) := by have := hb2.cell 0; simpa using this
  have f1 := hb2.frozen 1
  have e1 : w2.cell? ⟨ab, 1, none⟩ = some (.slice ba n0 bc) := by have := hb2.cell 1; simpa using this
  have hbel : Below B w w2 := ((HK1.out.below hBw (fun j e => by omega)).alloc (by omega) o).grown hgr (by simp; omega) (fun k e => (World.ownsRow.lt HX3.out k e).1)
  have HBEL := Lib.hid hbel; clear hbel hgr
  have d1 : w2.shape? ab = some (91, 3) := by
    have : w2.heap[ab]? = _ := hb2
    simp [World.shape?, this]
  have HB2 := Lib.hid hb2; clear hb2
  have HX52 := Lib.hid hx52; clear hx52
  have HO := Lib.hid hown'; clear hown'
  obtain ⟨va, vc, rfl, _⟩ := ownsRow_shapeN HO.out
  obtain ⟨vn, hvn⟩ : ∃ n, n0 + 3 = n := ⟨_, rfl⟩
  rw [hvn] at HO ⊢
  go_wp2_with fail
  have hb3 := HB2.out.set 1 (.slice va vn vc)
  obtain ⟨W3, hW3⟩ : ∃ W, w2.setCell ⟨ab, 1, none⟩ (.slice va vn vc) = W := ⟨_, rfl⟩
  have hk : Keep (fun j => j = ab) w2 W3 := by rw [← hW3]; exact Keep.of_setCell _ _ _ _
  have hbel3 : Below B w W3 := by rw [← hW3]; exact HBEL.out.setCell (p := ⟨ab, 1, none⟩) h6 _
  rw [hW3] at hb3
  try rw [hW3]
  have e3 : W3.cell? ⟨ab, 1, none⟩ = some (.slice va vn vc) := by have := hb3.cell 1; simpa using this
  have HB3 := Lib.hid hb3; clear hb3
  have HK := Lib.hid hk; clear hk
  have HBEL3 := Lib.hid hbel3; clear hbel3
  clear hW3 e1 d0 f1 d1
  go_wp2
  go_ret2
  have hsl : (bs ++ badB).length = vn := by rw [List.length_append, hn0, ← hvn]; rfl
  refine ⟨_, rfl, ⟨_, _, fv, .inr rfl, HB3.out, ?_, ?_, ?_, h6⟩, HBEL3.out⟩
  · have := ownsRow_keepN HO.out HK.out (fun j e h => blk_ne_row HB2.out HO.out (by decide) (by rw [e, h]))
    rw [hsl, Lib.byteCells_append]
    exact this
  · intro h
    simp [badB] at h
  · exact ownsRow_keepN HX52.out HK.out (fun j e h => blk_ne_row HB2.out HX52.out (by decide) (by rw [e, h]))

/-- a decoder's block -/
def DecB (w : World) (db cb : Nat) (how : Int) (held : ByteArray) (at_ : Int) (closed : Bool) : Prop :=
  Blk w db #[.pointer (some ⟨cb, 0, none⟩), .int .i64 how, .string held, .int .i64 at_, .bool closed] 103
theorem DecB.keep {S : Nat → Prop} {w w' : World} {db cb : Nat} {how at_ : Int} {held : ByteArray} {closed : Bool} (h : DecB w db cb how held at_ closed) (hk : Keep S w w') (hs : ¬ S db) : DecB w' db cb how held at_ closed := Blk.keep h hk hs
theorem DecB.below {w w' : World} {n db cb : Nat} {how at_ : Int} {held : ByteArray} {closed : Bool} (h : DecB w db cb how held at_ closed) (hk : Below n w w') (hn : db < n) : DecB w' db cb how held at_ closed := Blk.below h hk hn

set_option maxRecDepth 100000 in
set_option maxHeartbeats 2000000 in
theorem gone_any (db cb : Nat) (how : Int) (held : ByteArray) (at_ : Nat) (closed : Bool) (n : Nat) (w : World) (h : DecB w db cb how held at_ closed) (hn : n ≤ held.size) (hh : held.size ≤ 1000000000) (hat : at_ ≤ 1000000000) :
    Calls Tryd.prog 35 #[.pointer (some ⟨db, 0, none⟩), .int .i64 n] w fun e w' => e = .returned (.tuple #[]) ∧ DecB w' db cb how (held.extract n held.size) (at_ + n : Nat) closed ∧ Keep (fun j => j = db) w w' := by
  have HD := Lib.hid h; clear h
  have c2 : w.cell? ⟨db, 2, none⟩ = some (.string held) := by have := HD.out.cell 2; simpa using this
  have f2 := HD.out.frozen 2
  have n0 : (0 : Int) ≤ (n : Int) := by omega
  have n1 : (n : Int) ≤ (held.size : Int) := by omega
  obtain ⟨nh, hnh⟩ : ∃ s, held.extract n held.size = s := ⟨_, rfl⟩
  obtain ⟨q, hq⟩ : ∃ q : Nat, at_ + n = q := ⟨_, rfl⟩
  rw [hnh, hq]
  have hb3 := HD.out.set 2 (.string nh)
  obtain ⟨W3, hW3⟩ : ∃ W, w.setCell ⟨db, 2, none⟩ (.string nh) = W := ⟨_, rfl⟩
  have hk : Keep (fun j => j = db) w W3 := by rw [← hW3]; exact Keep.of_setCell _ _ _ _
  rw [hW3] at hb3
  have e3 : W3.cell? ⟨db, 3, none⟩ = some (.int .i64 at_) := by have := hb3.cell 3; simpa using this
  have f3 := hb3.frozen 3
  have HB3 := Lib.hid hb3; clear hb3
  have HK := Lib.hid hk; clear hk
  have hsum : IntKind.i64.wrap ((at_ : Int) + (n : Int)) = (q : Int) := by rw [IntWalk.i64_in _ (by omega)]; omega
  go_enter Tryd.func35, Tryd.ntmps35
  go_wp2
  go_end0
  exact ⟨rfl, HB3.out.set 3 _, HK.out.trans (Keep.of_setCell _ _ _ _) (fun _ _ h => h)⟩

set_option maxRecDepth 100000 in
set_option maxHeartbeats 2000000 in
theorem close_any (db cb : Nat) (how : Int) (held : ByteArray) (at_ : Int) (closed : Bool) (w : World) (h : DecB w db cb how held at_ closed) :
    Calls Tryd.prog 37 #[.pointer (some ⟨db, 0, none⟩)] w fun e w' => e = .returned (.tuple #[]) ∧ DecB w' db cb how ⟨#[]⟩ at_ true ∧ Keep (fun j => j = db) w w' := by
  have HD := Lib.hid h; clear h
  have c4 : w.cell? ⟨db, 4, none⟩ = some (.bool closed) := by have := HD.out.cell 4; simpa using this
  have f4 := HD.out.frozen 4
  have hb3 := HD.out.set 4 (.bool true)
  obtain ⟨W3, hW3⟩ : ∃ W, w.setCell ⟨db, 4, none⟩ (.bool true) = W := ⟨_, rfl⟩
  have hk : Keep (fun j => j = db) w W3 := by rw [← hW3]; exact Keep.of_setCell _ _ _ _
  rw [hW3] at hb3
  have c2 : W3.cell? ⟨db, 2, none⟩ = some (.string held) := by have := hb3.cell 2; simpa using this
  have f2 := hb3.frozen 2
  have HB3 := Lib.hid hb3; clear hb3
  have HK := Lib.hid hk; clear hk
  go_enter Tryd.func37, Tryd.ntmps37
  go_wp2
  go_end0
  exact ⟨rfl, HB3.out.set 2 _, HK.out.trans (Keep.of_setCell _ _ _ _) (fun _ _ h => h)⟩

/-- what a fault writes -/
def badOf (how : Int) : Bytes := if how = 2 then badB else []

set_option maxRecDepth 100000 in
set_option maxHeartbeats 8000000 in
theorem fault_any (B ab db cb : Nat) (how : Int) (held : ByteArray) (at_ n : Nat) (closed : Bool) (bs : Bytes) (fs : List (Int × Int)) (w : World) (hA : Ans B ab w bs fs) (hD : DecB w db cb how held at_ closed) (hdb : db < B) (hBw : B ≤ w.heap.size)
    (hn : n ≤ held.size) (hh : held.size ≤ 1000000000) (hat : at_ ≤ 1000000000) (hbs : bs.length ≤ 1000000000000) (hfs : fs.length ≤ 1000000000) :
    Calls Tryd.prog 36 #[.pointer (some ⟨db, 0, none⟩), .pointer (some ⟨ab, 0, none⟩), .int .i64 n] w fun e w' => e = .returned (.bool (how != 1)) ∧ Ans B ab w' (bs ++ badOf how) (fs ++ [((at_ : Int), (n : Int))]) ∧ DecB w' db cb how (held.extract n held.size) (at_ + n : Nat) closed ∧ Keep (fun j => j = db ∨ B ≤ j) w w' := by
  obtain ⟨pv, bv, fv, h1, h2, h3, h4, h5, h6⟩ := hA
  have H1 := Lib.hid h1; clear h1
  have H2 := Lib.hid h2; clear h2
  have H3 := Lib.hid h3; clear h3
  have H4 := Lib.hid h4; clear h4
  have H5 := Lib.hid h5; clear h5
  have HD := Lib.hid hD; clear hD
  obtain ⟨fn, hfn⟩ : ∃ n, fs.length = n := ⟨_, rfl⟩
  obtain ⟨fa, fc, rfl, _⟩ := ownsRow_shapeN H5.out
  rw [hfn] at H2 hfs
  have h5' : w.ownsRow B 49 2 (.slice fa fn fc) fn (fltC fs) := by have := H5.out; unfold OwnF at this; rw [hfn] at this; exact this
  clear H5
  have H5 := Lib.hid h5'; clear h5'
  have EF := Lib.hid (ElemN.mk' (P := Tryd.prog) (t := 35) (e := 49) (z := .agg #[.int .i64 0, .int .i64 0]) (size := 2) (bytes := 16) Tryd.underlying35 rfl (by decide) (by kernel_rfl))
  go_enter Tryd.func36, Tryd.ntmps36
  go_wp2_with fail
  have d2 : w.drew.cell? ⟨ab, 2, none⟩ = some (.slice fa fn fc) := by have := H2.out.cell 2; simpa using this
  have d3 : w.drew.cell? ⟨db, 3, none⟩ = some (.int .i64 at_) := by have := HD.out.cell 3; simpa using this
  have hS0 : w.drew.cell? ⟨ab, 2, none⟩ = some (.slice fa fn fc) ∧ w.drew.cell? ⟨db, 3, none⟩ = some (.int .i64 at_) := ⟨d2, d3⟩
  refine wp_region_E (fun w' => w'.cell? ⟨ab, 2, none⟩ = some (.slice fa fn fc) ∧ w'.cell? ⟨db, 3, none⟩ = some (.int .i64 at_)) (fun j => j == 15) (by kernel_rfl) ?_
  obtain ⟨W0, hW0⟩ : ∃ W, w.drew = W := ⟨_, rfl⟩
  have H20 := Lib.hid (show Blk w.drew ab _ _ from H2.out)
  have HD0 := Lib.hid (show DecB w.drew db cb how held at_ closed from HD.out)
  have H30 := Lib.hid (show w.drew.ownsRow _ _ _ _ _ _ from H3.out)
  have H50 := Lib.hid (show w.drew.ownsRow _ _ _ _ _ _ from H5.out)
  have hb0 : Below w.heap.size w w.drew := Below.drew (Below.refl _ _)
  have hs0 : w.drew.heap.size = w.heap.size := rfl
  rw [hW0] at H20 HD0 H30 H50 hb0 hS0 hs0 ⊢
  have HS0 := Lib.hid hs0
  clear hW0 H2 HD H3 H5 d2 d3 hs0
  refine wpAnyE_takeT (i := 0) (d := some 7) (v := ?_) rfl rfl (by kernel_rfl) (by kernel_rfl) (by kernel_rfl) (by kernel_rfl) (fun _ _ _ h => h) (Or.inl ⟨by rfl, ?_⟩) (by assumption) ?_
  rotate_left
  · intro w hSw; (try dsimp only at hSw); go_simp; all_goals (with_reducible rfl)
  simp only [Act.put, List.setIfInBounds_toArray, List.set_cons_zero, List.set_cons_succ]
  refine wpAnyE_takeT (i := 1) (d := some 8) (v := ?_) rfl rfl (by kernel_rfl) (by kernel_rfl) (by kernel_rfl) (by kernel_rfl) (fun _ _ _ h => h) (Or.inl ⟨by rfl, ?_⟩) (by assumption) ?_
  rotate_left
  · intro w hSw; (try dsimp only at hSw); go_simp; all_goals (with_reducible rfl)
  simp only [Act.put, List.setIfInBounds_toArray, List.set_cons_zero, List.set_cons_succ]
  refine wpAnyE_takeT (i := 2) (d := some 9) (v := ?_) rfl rfl (by kernel_rfl) (by kernel_rfl) (by kernel_rfl) (by kernel_rfl) (fun _ _ _ h => h) (Or.inl ⟨by rfl, ?_⟩) (by assumption) ?_
  rotate_left
  · intro w hSw; (try dsimp only at hSw); go_simp; all_goals (with_reducible rfl)
  simp only [Act.put, List.setIfInBounds_toArray, List.set_cons_zero, List.set_cons_succ]
  refine wpAnyE_takeT (i := 3) (d := some 10) (v := ?_) rfl rfl (by kernel_rfl) (by kernel_rfl) (by kernel_rfl) (by kernel_rfl) (fun _ _ _ h => h) (Or.inl ⟨by rfl, ?_⟩) (by assumption) ?_
  rotate_left
  · intro w hSw; (try dsimp only at hSw); go_simp; all_goals (with_reducible rfl)
  simp only [Act.put, List.setIfInBounds_toArray, List.set_cons_zero, List.set_cons_succ]
  refine wpAnyE_takeT (i := 4) (d := some 11) (v := ?_) rfl rfl (by kernel_rfl) (by kernel_rfl) (by kernel_rfl) (by kernel_rfl) (fun _ _ _ h => h) (Or.inl ⟨by rfl, ?_⟩) (by assumption) ?_
  rotate_left
  · intro w hSw; (try dsimp only at hSw); go_simp; all_goals (with_reducible rfl)
  simp only [Act.put, List.setIfInBounds_toArray, List.set_cons_zero, List.set_cons_succ]
  refine wpAnyE_takeT (i := 5) (d := some 12) (v := ?_) rfl rfl (by kernel_rfl) (by kernel_rfl) (by kernel_rfl) (by kernel_rfl) (fun _ _ _ h => h) (Or.inl ⟨by rfl, ?_⟩) (by assumption) ?_
  rotate_left
  · intro w hSw; (try dsimp only at hSw); go_simp; all_goals (with_reducible rfl)
  simp only [Act.put, List.setIfInBounds_toArray, List.set_cons_zero, List.set_cons_succ]
  refine wpAnyE_takeT (i := 6) (d := some 13) (v := ?_) rfl rfl (by kernel_rfl) (by kernel_rfl) (by kernel_rfl) (by kernel_rfl) (fun _ _ _ h => h) (Or.inl ⟨by rfl, ?_⟩) (by assumption) ?_
  rotate_left
  · intro w hSw; (try dsimp only at hSw); go_simp; all_goals (with_reducible rfl)
  simp only [Act.put, List.setIfInBounds_toArray, List.set_cons_zero, List.set_cons_succ]
  refine wpAnyE_takeT (i := 7) (d := some 14) (v := ?_) rfl rfl (by kernel_rfl) (by kernel_rfl) (by kernel_rfl) (by kernel_rfl) (fun _ _ _ h => h) (Or.inl ⟨by rfl, ?_⟩) (by assumption) ?_
  rotate_left
  · intro w hSw; (try dsimp only at hSw); go_simp; all_goals (with_reducible rfl)
  simp only [Act.put, List.setIfInBounds_toArray, List.set_cons_zero, List.set_cons_succ]
  refine wpAnyE_takeT (i := 8) (d := some 15) (v := ?_) rfl rfl (by kernel_rfl) (by kernel_rfl) (by kernel_rfl) (by kernel_rfl) (fun _ _ _ h => h) (Or.inl ⟨by rfl, ?_⟩) (by assumption) ?_
  rotate_left
  · intro w hSw; (try dsimp only at hSw); go_simp; all_goals (with_reducible rfl)
  simp only [Act.put, List.setIfInBounds_toArray, List.set_cons_zero, List.set_cons_succ]
  refine wpAnyE_takeT (i := 9) (d := some 16) (v := ?_) rfl rfl (by kernel_rfl) (by kernel_rfl) (by kernel_rfl) (by kernel_rfl) (fun _ _ _ h => h) (Or.inl ⟨by rfl, ?_⟩) (by assumption) ?_
  rotate_left
  · intro w hSw; (try dsimp only at hSw); go_simp; all_goals (with_reducible rfl)
  simp only [Act.put, List.setIfInBounds_toArray, List.set_cons_zero, List.set_cons_succ]
  refine wpAnyE_takeT (i := 10) (d := some 17) (v := ?_) rfl rfl (by kernel_rfl) (by kernel_rfl) (by kernel_rfl) (by kernel_rfl) (fun _ _ _ h => h) (Or.inl ⟨by rfl, ?_⟩) (by assumption) ?_
  rotate_left
  · intro w hSw; (try dsimp only at hSw); go_simp; all_goals (with_reducible rfl)
  simp only [Act.put, List.setIfInBounds_toArray, List.set_cons_zero, List.set_cons_succ]
  refine wpAnyE_ready (rs := [11]) (by kernel_rfl) (by simp) ?_
  refine AllE.cons rfl (fun K hK => ?_) AllE.nil
  go_simp
  obtain ⟨V5, hV5, hp5⟩ : ∃ V', W0.alloc (.cells #[.int .i64 at_, .int .i64 n] 49) = V' ∧ Blk V' W0.heap.size #[.int .i64 at_, .int .i64 n] 49 := ⟨_, rfl, Blk.new _ _ _⟩
  have hg5 : W0.grownBy V5 none := by rw [← hV5]; exact World.grownBy_alloc _ _ none
  have hs5 : V5.heap.size = W0.heap.size + 1 := by rw [← hV5]; simp
  have H25 := Lib.hid (H20.out.grown hg5 (by simp))
  have HD5 := Lib.hid (Blk.grown HD0.out hg5 (by simp))
  have H35 := Lib.hid (World.ownsRow.kept H30.out hg5 (by cases bv.ownBlock <;> simp))
  have H55 := Lib.hid (World.ownsRow.kept H50.out hg5 (by cases (Value.slice fa fn fc).ownBlock <;> simp))
  have hb5 : Below w.heap.size w V5 := by rw [← hV5]; exact hb0.alloc (by have := HS0.out; omega) _
  have HB5 := Lib.hid hb5; clear hb5
  obtain ⟨p5, hpe5⟩ : ∃ q, W0.heap.size = q := ⟨_, rfl⟩
  have hwp : w.heap.size = p5 := by rw [← hpe5]; exact HS0.out.symm
  have hBp : B ≤ p5 := by omega
  have HWP := Lib.hid hwp; clear hwp
  rw [hpe5] at hp5
  try rw [hV5]
  try rw [hpe5]
  have d2' : V5.cell? ⟨ab, 2, none⟩ = some (.slice fa fn fc) := by have := H25.out.cell 2; simpa using this
  have d3' : V5.cell? ⟨db, 3, none⟩ = some (.int .i64 at_) := by have := HD5.out.cell 3; simpa using this
  refine hK.out _ _ (fun _ => ⟨d2', d3'⟩) ?_
  clear hK K hS0 d2' d3' hV5 hg5 H20 HD0 H30 H50 hb0
  try simp only [Act.put, List.setIfInBounds_toArray, List.set_cons_zero, List.set_cons_succ]
  refine wpAnyE_ready (rs := [12]) (by kernel_rfl) (by simp) ?_
  refine AllE.cons rfl (fun K hK => ?_) AllE.nil
  refine step_appendN EF.out rfl _ _ rfl B _ fn (fltC fs) rfl H55.out p5 #[.int .i64 at_, .int .i64 n] _ hp5 rfl rfl (by simp [Value.oneCell']) (by omega) (by omega) (by omega) ?_
  intro g6 cap6 V6 hown6 hgr6 _ _
  have H26 := Lib.hid (H25.out.grown hgr6 (blk_ne_row H25.out H55.out (by decide)))
  have HD6 := Lib.hid (HD5.out.grown hgr6 (blk_ne_row HD5.out H55.out (by decide)))
  have H36 := Lib.hid (World.ownsRow.kept H35.out hgr6 (rows_ne H35.out H55.out (by decide)))
  have H56 := Lib.hid hown6
  have hk6 : Keep (fun j => j = db ∨ B ≤ j) w V6 := (Keep.of_below HB5.out rfl).trans ((Keep.of_grown hgr6).weaken (S' := fun j => j = db ∨ B ≤ j) (fun j _ e => .inr (World.ownsRow.lt H55.out j e).1)) (fun _ _ h => h)
  have hs6 := hgr6.size
  have HK6 := Lib.hid hk6; clear hk6
  clear hown6 hgr6 hp5 H25 HD5 H35 H55 HB5
  have d2 : V6.cell? ⟨ab, 2, none⟩ = some (.slice fa fn fc) := by have := H26.out.cell 2; simpa using this
  have d3 : V6.cell? ⟨db, 3, none⟩ = some (.int .i64 at_) := by have := HD6.out.cell 3; simpa using this
  have f2 := H26.out.frozen 2
  refine hK.out _ _ (fun _ => ⟨d2, d3⟩) ?_
  clear hK K
  have hS0 : V6.cell? ⟨ab, 2, none⟩ = some (.slice fa fn fc) ∧ V6.cell? ⟨db, 3, none⟩ = some (.int .i64 at_) := ⟨d2, d3⟩
  try simp only [Act.put, List.setIfInBounds_toArray, List.set_cons_zero, List.set_cons_succ]
  refine wpAnyE_takeT (i := 13) (d := some 20) (v := ?_) rfl rfl (by kernel_rfl) (by kernel_rfl) (by kernel_rfl) (by kernel_rfl) (fun _ _ _ h => h) (Or.inl ⟨by rfl, ?_⟩) (by assumption) ?_
  rotate_left
  · intro w hSw; (try dsimp only at hSw); go_simp; all_goals (with_reducible rfl)
  simp only [Act.put, List.setIfInBounds_toArray, List.set_cons_zero, List.set_cons_succ]
  refine wpAnyE_takeT (i := 14) (d := some 21) (v := ?_) rfl rfl (by kernel_rfl) (by kernel_rfl) (by kernel_rfl) (by kernel_rfl) (fun _ _ _ h => h) (Or.inl ⟨by rfl, ?_⟩) (by assumption) ?_
  rotate_left
  · intro w hSw; (try dsimp only at hSw); go_simp; all_goals (with_reducible rfl)
  simp only [Act.put, List.setIfInBounds_toArray, List.set_cons_zero, List.set_cons_succ]
  refine wpAnyE_ready (rs := [15]) (by kernel_rfl) (by simp) ?_
  refine AllE.cons rfl (fun K hK => ?_) AllE.nil
  go_simp
  refine hK.out _ _ (fun h => by simp at h) ?_
  clear hK K d2 d3 f2 hS0
  try simp only [Act.put, List.setIfInBounds_toArray, List.set_cons_zero, List.set_cons_succ]
  refine wpAnyE_done (by kernel_rfl) ?_ _
  obtain ⟨V7, hV7⟩ : ∃ W, V6.setCell ⟨ab, 2, none⟩ (.slice (some ⟨g6, 0, none⟩) (fn + 1) cap6) = W := ⟨_, rfl⟩
  have hne : db ≠ ab := by omega
  have hk7 : Keep (fun j => j = ab) V6 V7 := by rw [← hV7]; exact Keep.of_setCell _ _ _ _
  have h27 : Blk V7 ab #[pv, bv, .slice (some ⟨g6, 0, none⟩) (fn + 1) cap6] 91 := by rw [← hV7]; exact H26.out.set 2 _
  have H37 := Lib.hid (ownsRow_keepN H36.out hk7 (fun j e h => blk_ne_row H26.out H36.out (by decide) (by rw [e, h])))
  have H57 := Lib.hid (ownsRow_keepN H56.out hk7 (fun j e h => blk_ne_row H26.out H56.out (by decide) (by rw [e, h])))
  have HD7 := Lib.hid (show DecB V7 db cb how held at_ closed from Blk.keep HD6.out hk7 hne)
  have HK7 := Lib.hid (HK6.out.trans (hk7.weaken (S' := fun j => j = db ∨ B ≤ j) (fun j _ e => .inr (by rw [e]; exact h6))) (fun _ _ h => h))
  have hs7 := hk7.size
  have HA7 := Lib.hid (show Ans B ab V7 bs (fs ++ [((at_ : Int), (n : Int))]) from ⟨pv, bv, _, H1.out, h27, H37.out, H4.out, by
    unfold OwnF
    rw [fltC_snoc, List.length_append, hfn]
    exact H57.out, h6⟩)
  try rw [hV7]
  clear hV7 hk7 h27 H37 H57 H26 H36 H56 HD6 HK6 H1 H4
  go_wp2_with fail
  refine (gone_any db cb how held at_ closed n V7 HD7.out hn hh hat).mono ?_
  rintro e W8 ⟨rfl, hd8, hk8⟩
  have HA8 := Lib.hid (HA7.out.keep hk8 (fun j hj e => by omega))
  have HD8 := Lib.hid hd8; clear hd8
  have HK8 := Lib.hid (HK7.out.trans (hk8.weaken (S' := fun j => j = db ∨ B ≤ j) (fun j _ e => .inl e)) (fun _ _ h => h))
  have hs8 := hk8.size
  clear hk8 HA7 HD7 HK7
  have c1 : W8.cell? ⟨db, 1, none⟩ = some (.int .i64 how) := by have := HD8.out.cell 1; simpa using this
  have hbo : badOf how = if how = 2 then badB else [] := rfl
  by_cases h2 : how = 2
  · subst h2
    have e2 : ((2 : Int) == 2) = true := rfl
    go_wp2_with fail
    refine (writeBad_any B ab bs _ W8 HA8.out (by omega) (by omega)).mono ?_
    rintro e W9 ⟨v9, rfl, ha9, hb9⟩
    have hdbB : db < B := hdb
    have HD9 := Lib.hid (HD8.out.below hb9 hdb)
    have HK9 := Lib.hid (HK8.out.trans (⟨hb9.os, hb9.tape, hb9.output, hb9.size, fun k hk hn => hb9.block k (by simp only [not_or] at hn; omega)⟩ : Keep (fun j => j = db ∨ B ≤ j) W8 W9) (fun _ _ h => h))
    have HA9 := Lib.hid ha9; clear ha9 hb9
    have c1' : W9.cell? ⟨db, 1, none⟩ = some (.int .i64 2) := by have := HD9.out.cell 1; simpa using this
    go_wp2
    go_ret
    exact ⟨rfl, HA9.out, HD9.out, HK9.out⟩
  · have e2 : (how == 2) = false := by simp [h2]
    have hbe : badOf how = [] := by rw [hbo, if_neg h2]
    have HBE := Lib.hid hbe; clear hbe hbo h2
    go_wp2
    go_ret
    exact ⟨rfl, by rw [HBE.out, List.append_nil]; exact HA8.out, HD8.out, HK8.out⟩

end Go.Proofs.YtplobpelhcagpaaDoor
