/-
  Multi: a decoder's New, Held, At, Reset, Flush; the nil one's methods.
-/
import Derived.Test.YtplobpelhcagpaaDoorMsL
import Derived.Defers
namespace Go.Proofs.YtplobpelhcagpaaDoor
open Go.RowKit Go.Shelf Pl14

set_option maxRecDepth 100000 in
set_option maxHeartbeats 2000000 in
theorem newNil_any (how : Int) (w : World) : Calls Tryd.prog 19 #[.pointer none, .int .i64 how] w fun e w' => e = .returned (.tuple #[.pointer none, .int .i64 2]) ∧ w' = w := by
  go_enter Tryd.func19, Tryd.ntmps19
  go_wp2
  go_ret2
  exact ⟨rfl, rfl⟩
/-- may a policy be? -/
def HowOk (how : Int) : Prop := 1 ≤ how ∧ how ≤ 3
set_option maxRecDepth 100000 in
set_option maxHeartbeats 2000000 in
theorem new_any (cb : Nat) (how : Int) (w : World) : Calls Tryd.prog 19 #[.pointer (some ⟨cb, 0, none⟩), .int .i64 how] w fun e w' =>
    (HowOk how ∧ e = .returned (.tuple #[.pointer (some ⟨w.heap.size, 0, none⟩), .int .i64 0]) ∧ DecB w' w.heap.size cb how ⟨#[]⟩ 0 false ∧ Below w.heap.size w w' ∧ w.heap.size < w'.heap.size) ∨
    (¬ HowOk how ∧ e = .returned (.tuple #[.pointer none, .int .i64 16]) ∧ w' = w) := by
  by_cases h1 : how < 1
  · go_enter Tryd.func19, Tryd.ntmps19
    go_wp2
    go_ret2
    exact .inr ⟨by unfold HowOk; omega, rfl, rfl⟩
  · by_cases h2 : 3 < how
    · go_enter Tryd.func19, Tryd.ntmps19
      go_wp2
      go_ret2
      exact .inr ⟨by unfold HowOk; omega, rfl, rfl⟩
    · have h3 : ¬ (3 < how) := h2
      go_enter Tryd.func19, Tryd.ntmps19
      go_wp2
      go_ret2
      refine   .inl ⟨by unfold HowOk; omega, rfl, Blk.new _ _ _, (Below.refl _ _).alloc (Nat.le_refl _) _, by simp⟩

set_option maxRecDepth 100000 in
theorem heldNil_any (w : World) : Calls Tryd.prog 22 #[.pointer none] w fun e w' => e = .returned (.string ⟨#[]⟩) ∧ w' = w := by
  go_enter Tryd.func22, Tryd.ntmps22
  go_wp2
  go_ret
  exact ⟨rfl, rfl⟩
set_option maxRecDepth 100000 in
theorem atNil_any (w : World) : Calls Tryd.prog 21 #[.pointer none] w fun e w' => e = .returned (.int .i64 0) ∧ w' = w := by
  go_enter Tryd.func21, Tryd.ntmps21
  go_wp2
  go_ret
  exact ⟨rfl, rfl⟩
set_option maxRecDepth 100000 in
theorem resetNil_any (w : World) : Calls Tryd.prog 24 #[.pointer none] w fun e w' => e = .returned (.tuple #[]) ∧ w' = w := by
  go_enter Tryd.func24, Tryd.ntmps24
  go_wp2
  go_end0
  exact ⟨rfl, rfl⟩
set_option maxRecDepth 100000 in
set_option maxHeartbeats 2000000 in
theorem stepNil_any (s : ByteArray) (w : World) : Calls Tryd.prog 20 #[.pointer none, .string s] w fun e w' => e = .returned (.tuple #[.string ⟨#[]⟩, .slice none 0 0, .int .i64 2]) ∧ w' = w := by
  go_enter Tryd.func20, Tryd.ntmps20
  go_wp2
  go_ret3
  exact ⟨rfl, rfl⟩
set_option maxRecDepth 100000 in
set_option maxHeartbeats 2000000 in
theorem stepOver_any (db cb : Nat) (how : Int) (held s : ByteArray) (at_ : Int) (w : World) (hD : DecB w db cb how held at_ true) : Calls Tryd.prog 20 #[.pointer (some ⟨db, 0, none⟩), .string s] w fun e w' => e = .returned (.tuple #[.string ⟨#[]⟩, .slice none 0 0, .int .i64 21]) ∧ w' = w := by
  have c4 : w.cell? ⟨db, 4, none⟩ = some (.bool true) := by have := Blk.cell hD 4; simpa using this
  clear hD
  go_enter Tryd.func20, Tryd.ntmps20
  go_wp2
  go_ret3
  exact ⟨rfl, rfl⟩
set_option maxRecDepth 100000 in
set_option maxHeartbeats 2000000 in
theorem flushNil_any (w : World) : Calls Tryd.prog 23 #[.pointer none] w fun e w' => e = .returned (.tuple #[.string ⟨#[]⟩, .slice none 0 0, .int .i64 2]) ∧ w' = w := by
  go_enter_defers Tryd.func23, Tryd.ntmps23
  go_wp2
  exact ⟨_, results_tmp3 rfl _ _ _, rfl, rfl⟩

theorem held_any (db cb : Nat) (how : Int) (held : ByteArray) (at_ : Int) (cl : Bool) (w : World) (hD : DecB w db cb how held at_ cl) : Calls Tryd.prog 22 #[.pointer (some ⟨db, 0, none⟩)] w fun e w' => e = .returned (.string held) ∧ w' = w := by
  have c2 : w.cell? ⟨db, 2, none⟩ = some (.string held) := by have := Blk.cell hD 2; simpa using this
  clear hD
  go_enter Tryd.func22, Tryd.ntmps22
  go_wp2
  go_ret
  exact ⟨rfl, rfl⟩
theorem at_any (db cb : Nat) (how : Int) (held : ByteArray) (at_ : Int) (cl : Bool) (w : World) (hD : DecB w db cb how held at_ cl) : Calls Tryd.prog 21 #[.pointer (some ⟨db, 0, none⟩)] w fun e w' => e = .returned (.int .i64 at_) ∧ w' = w := by
  have c2 : w.cell? ⟨db, 3, none⟩ = some (.int .i64 at_) := by have := Blk.cell hD 3; simpa using this
  clear hD
  go_enter Tryd.func21, Tryd.ntmps21
  go_wp2
  go_ret
  exact ⟨rfl, rfl⟩

set_option maxRecDepth 100000 in
set_option maxHeartbeats 2000000 in
theorem reset_any (db cb : Nat) (how : Int) (held : ByteArray) (at_ : Int) (cl : Bool) (w : World) (hD : DecB w db cb how held at_ cl) : Calls Tryd.prog 24 #[.pointer (some ⟨db, 0, none⟩)] w fun e w' => e = .returned (.tuple #[]) ∧ DecB w' db cb how ⟨#[]⟩ 0 false ∧ Keep (fun j => j = db) w w' := by
  have HD := Lib.hid hD; clear hD
  have c2 : w.cell? ⟨db, 2, none⟩ = some (.string held) := by have := HD.out.cell 2; simpa using this
  have f2 := HD.out.frozen 2
  have hb3 := HD.out.set 2 (.string ⟨#[]⟩)
  obtain ⟨W3, hW3⟩ : ∃ W, w.setCell ⟨db, 2, none⟩ (.string ⟨#[]⟩) = W := ⟨_, rfl⟩
  have hk : Keep (fun j => j = db) w W3 := by rw [← hW3]; exact Keep.of_setCell _ _ _ _
  rw [hW3] at hb3
  have c3 : W3.cell? ⟨db, 3, none⟩ = some (.int .i64 at_) := by have := hb3.cell 3; simpa using this
  have f3 := hb3.frozen 3
  have hb4 := hb3.set 3 (.int .i64 0)
  obtain ⟨W4, hW4⟩ : ∃ W, W3.setCell ⟨db, 3, none⟩ (.int .i64 0) = W := ⟨_, rfl⟩
  have hk4 : Keep (fun j => j = db) W3 W4 := by rw [← hW4]; exact Keep.of_setCell _ _ _ _
  rw [hW4] at hb4
  have c4 : W4.cell? ⟨db, 4, none⟩ = some (.bool cl) := by have := hb4.cell 4; simpa using this
  have f4 := hb4.frozen 4
  have HB3 := Lib.hid hb3; clear hb3
  have HB4 := Lib.hid hb4; clear hb4
  have HK := Lib.hid (hk.trans hk4 (fun _ _ h => h)); clear hk hk4
  go_enter Tryd.func24, Tryd.ntmps24
  go_wp2
  go_end0
  exact ⟨rfl, HB4.out.set 4 _, HK.out.trans (Keep.of_setCell _ _ _ _) (fun _ _ h => h)⟩

set_option maxRecDepth 100000 in
set_option maxHeartbeats 2000000 in
theorem closeD_any (u : FrameMode) (db cb : Nat) (how : Int) (held : ByteArray) (at_ : Int) (closed : Bool) (w : World) (h : DecB w db cb how held at_ closed) :
    CallsD Tryd.prog 37 #[.pointer (some ⟨db, 0, none⟩)] u w fun e u' w' => u' = u ∧ e = .returned (.tuple #[]) ∧ DecB w' db cb how ⟨#[]⟩ at_ true ∧ Keep (fun j => j = db) w w' := by
  have HD := Lib.hid h; clear h
  have c4 : w.cell? ⟨db, 4, none⟩ = some (.bool closed) := by have := HD.out.cell 4; simpa using this
  have f4 := HD.out.frozen 4
  have hb3 := HD.out.set 4 (.bool true)
  obtain ⟨W3, hW3⟩ : ∃ W, w.setCell ⟨db, 4, none⟩ (.bool true) = W := ⟨_, rfl⟩
  have hk : Keep (fun j => j = db) w W3 := by rw [← hW3]; exact Keep.of_setCell _ _ _ _
  rw [hW3] at hb3
  have c2 : W3.cell? ⟨db, 2, none⟩ = some (.string held) := by have := hb3.cell 2; simpa using this
  have f2 := hb3.frozen 2
  have HB3 := Lib.hid hb3; clear hb3
  have HK := Lib.hid hk; clear hk
  go_enter_d Tryd.func37, Tryd.ntmps37
  go_wp2
  go_end0
  exact ⟨rfl, HB3.out.set 2 _, HK.out.trans (Keep.of_setCell _ _ _ _) (fun _ _ h => h)⟩

/-- what Flush answers -/
def flushP (how : Int) (held : Bytes) (at_ : Nat) : Bytes × List (Int × Int) × Int :=
  if held = [] then ([], [], 0) else if how = 1 then ([], [((at_ : Int), (held.length : Int))], 18) else (badOf how, [((at_ : Int), (held.length : Int))], 0)

set_option maxRecDepth 100000 in
set_option maxHeartbeats 8000000 in
theorem flush_any (db cb : Nat) (how : Int) (held : ByteArray) (at_ : Nat) (w : World) (hD : DecB w db cb how held at_ false) (hsz : held.size ≤ 500000) (hat : at_ ≤ 100000000) :
    Calls Tryd.prog 23 #[.pointer (some ⟨db, 0, none⟩)] w fun e w' => ∃ v t fs er, flushP how held.data.toList at_ = (t, fs, er) ∧ e = .returned (.tuple #[.string ⟨t.toArray⟩, v, .int .i64 er]) ∧
      OwnF w.heap.size w' v fs ∧ DecB w' db cb how ⟨#[]⟩ (at_ + held.size : Nat) true ∧ Keep (fun j => j = db) w w' := by
  have HD := Lib.hid hD; clear hD
  have c4 : w.cell? ⟨db, 4, none⟩ = some (.bool false) := by have := HD.out.cell 4; simpa using this
  have hdl : db < w.heap.size := HD.out.lt
  obtain ⟨ab, hab⟩ : ∃ q, w.heap.size = q := ⟨_, rfl⟩
  obtain ⟨W2, hW2⟩ : ∃ W, w.alloc (.cells #[.pointer none, .slice none 0 0, .slice none 0 0] 91) = W := ⟨_, rfl⟩
  have hA2 := Ans.new w
  rw [hW2, hab] at hA2
  have hb2 : Below ab w W2 := by rw [← hW2, ← hab]; exact (Below.refl _ _).alloc (Nat.le_refl _) _
  have HD2 := Lib.hid (HD.out.below hb2 (by omega))
  have HK2 := Lib.hid (show Keep (fun j => j = db ∨ ab ≤ j) w W2 from Keep.of_below hb2 hab.symm)
  have HA2 := Lib.hid hA2
  have hs2 : ab ≤ W2.heap.size := by have := hb2.size; omega
  have HS2 := Lib.hid hs2
  have c2 : W2.cell? ⟨db, 2, none⟩ = some (.string held) := by have := HD2.out.cell 2; simpa using this
  clear hA2 hb2 hs2
  have HAB := Lib.hid hab
  rw [hab] at hdl
  rw [hab]
  by_cases h0 : held.data.toList = []
  · have e0 : held.toList.isEmpty = true := by rw [ByteArray.toList_eq, h0]; rfl
    have hsz0 : held.size = 0 := by rw [size_toList, h0]; rfl
    have HXE := Lib.hid (show flushP how held.data.toList at_ = ([], [], 0) from by unfold flushP; rw [if_pos h0])
    have HSZ := Lib.hid hsz0
    clear h0 hsz0
    go_enter_defers Tryd.func23, Tryd.ntmps23
    go_wp2_with fail
    refine wp_region_noPanic ?_
    obtain ⟨pvx, bvx, fvx, hpx, hbx, hrx⟩ := HA2.out
    have HBX := Lib.hid hbx; clear hbx hrx hpx
    have d2 : W2.drew.cell? ⟨ab, 2, none⟩ = some fvx := by have := HBX.out.cell 2; simpa using this
    have hS0 : W2.drew.cell? ⟨ab, 2, none⟩ = some fvx := d2
    refine wp_region_held_drew (S := fun w' => w'.cell? ⟨ab, 2, none⟩ = some fvx) (by kernel_rfl) hS0 (fun hHeld => ?_)
    clear hS0 d2
    have HA5 := Lib.hid (HA2.out.below (Below.drew (Below.refl W2.heap.size W2)) rfl)
    have HD5 := Lib.hid (show DecB W2.drew db cb how held at_ false from HD2.out)
    have HK5 := Lib.hid (HK2.out.trans (Keep.of_drew _ W2) (fun _ _ h => h))
    obtain ⟨W5, hW5⟩ : ∃ W, W2.drew = W := ⟨_, rfl⟩
    rw [hW5] at HA5 HD5 HK5 hHeld ⊢
    clear hW5 HBX
    refine wpAnyH_takeD (i := 0) (d := some 32) (v := ?_) rfl rfl (by kernel_rfl) (by kernel_rfl) (by kernel_rfl) (fun _ _ _ h => h) (Or.inl ⟨by rfl, ?_⟩) (by assumption) ?_
    rotate_left
    · intro w hSw; (try dsimp only at hSw); go_simp; all_goals (with_reducible rfl)
    simp only [Act.put, List.setIfInBounds_toArray, List.set_cons_zero, List.set_cons_succ]
    refine wpAnyH_takeD (i := 2) (d := some 34) (v := ?_) rfl rfl (by kernel_rfl) (by kernel_rfl) (by kernel_rfl) (fun _ _ _ h => h) (Or.inl ⟨by rfl, ?_⟩) (by assumption) ?_
    rotate_left
    · intro w hSw; (try dsimp only at hSw); go_simp; all_goals (with_reducible rfl)
    simp only [Act.put, List.setIfInBounds_toArray, List.set_cons_zero, List.set_cons_succ]
    refine wpAnyH_takeD (i := 3) (d := some 35) (v := ?_) rfl rfl (by kernel_rfl) (by kernel_rfl) (by kernel_rfl) (fun _ _ _ h => h) (Or.inl ⟨by rfl, ?_⟩) (by assumption) ?_
    rotate_left
    · intro w hSw; (try dsimp only at hSw); go_simp; all_goals (with_reducible rfl)
    simp only [Act.put, List.setIfInBounds_toArray, List.set_cons_zero, List.set_cons_succ]
    refine wpAnyH_ready (rs := [1]) (by kernel_rfl) (by simp) ?_
    refine AllReadyH.cons (o := _) rfl (fun K hK => ?_) AllReadyH.nil
    have HB5 := Lib.hid (show ab ≤ W5.heap.size from by have := HK5.out.size; have := HAB.out; omega)
    go_simp
    refine (string_any ab ab _ _ W5 HA5.out HB5.out).mono ?_
    rintro e W6 ⟨rfl, hb6, pv6, bv6, fv6, hbk6, hf6, hc6⟩
    obtain rfl : fv6 = fvx := by have := hc6.symm.trans hHeld; simpa using this
    have d2 : W6.cell? ⟨ab, 2, none⟩ = some fv6 := by have := hbk6.cell 2; simpa using this
    have HD6 := Lib.hid (HD5.out.below hb6 hdl)
    have HK6 := Lib.hid (HK5.out.trans (⟨hb6.os, hb6.tape, hb6.output, hb6.size, fun k hk hn => hb6.block k (by simp only [not_or] at hn; omega)⟩ : Keep (fun j => j = db ∨ ab ≤ j) W5 W6) (fun _ _ h => h))
    have HF6 := Lib.hid hf6
    clear hc6 hbk6 hf6 hb6 HA5 HD5 HK5 HB5
    go_wp2_with fail
    refine hK.out _ _ d2 (fun hHeld => ?_)
    clear hK K d2
    try simp only [Act.put, List.setIfInBounds_toArray, List.set_cons_zero, List.set_cons_succ]
    refine wpAnyH_takeD (i := 4) (d := some 2) (v := ?_) rfl rfl (by kernel_rfl) (by kernel_rfl) (by kernel_rfl) (fun _ _ _ h => h) (Or.inl ⟨by rfl, ?_⟩) (by assumption) ?_
    rotate_left
    · intro w hSw; (try dsimp only at hSw); go_simp; all_goals (with_reducible rfl)
    simp only [Act.put, List.setIfInBounds_toArray, List.set_cons_zero, List.set_cons_succ]
    refine wpAnyH_takeD (i := 5) (d := some 3) (v := ?_) rfl rfl (by kernel_rfl) (by kernel_rfl) (by kernel_rfl) (fun _ _ _ h => h) (Or.inl ⟨by rfl, ?_⟩) (by assumption) ?_
    rotate_left
    · intro w hSw; (try dsimp only at hSw); go_simp; all_goals (with_reducible rfl)
    simp only [Act.put, List.setIfInBounds_toArray, List.set_cons_zero, List.set_cons_succ]
    refine wpAnyH_takeD (i := 6) (d := some 4) (v := ?_) rfl rfl (by kernel_rfl) (by kernel_rfl) (by kernel_rfl) (fun _ _ _ h => h) (Or.inl ⟨by rfl, ?_⟩) (by assumption) ?_
    rotate_left
    · intro w hSw; (try dsimp only at hSw); go_simp; all_goals (with_reducible rfl)
    simp only [Act.put, List.setIfInBounds_toArray, List.set_cons_zero, List.set_cons_succ]
    refine wpAnyH_done (by kernel_rfl) ?_ _
    refine NoPanic.normal ?_
    clear hHeld
    go_wp2
    refine leaves_cons (f := 37) (args := #[.pointer (some ⟨db, 0, none⟩)]) (by simp) (by simp [go_sem]) ?_
    refine (closeD_any .returning db cb how held at_ false W6 HD6.out).mono ?_
    rintro e u' W7 ⟨rfl, rfl, hd7, hk7⟩
    refine ⟨_, results_tmp3 rfl _ _ _, fv6, [], [], 0, HXE.out, rfl, ownsRow_keepN HF6.out hk7 (fun j e h => by have := (World.ownsRow.lt HF6.out j e).1; omega), by rw [HSZ.out]; exact hd7, (HK6.out.trans (hk7.weaken (S' := fun j => j = db ∨ ab ≤ j) (fun j _ e => .inl e)) (fun _ _ h => h)).weaken (fun j hj e => by have := HAB.out; omega)⟩
  · have e0 : held.toList.isEmpty = false := by rw [ByteArray.toList_eq]; cases h : held.data.toList with | nil => exact absurd h h0 | cons _ _ => rfl
    have HXE := Lib.hid (show flushP how held.data.toList at_ = if how = 1 then ([], [((at_ : Int), (held.size : Int))], 18) else (badOf how, [((at_ : Int), (held.size : Int))], 0) from by unfold flushP; rw [if_neg h0, ← size_toList])
    clear h0
    have HFA := Lib.hid (fault_any ab ab db cb how held at_ held.size false [] [] W2 HA2.out HD2.out hdl HS2.out (Nat.le_refl _) (by omega) (by omega) (by simp) (by simp))
    have hsz2 : held.size ≤ 500000 := hsz
    by_cases h1 : how = 1
    · have e1 : (how != 1) = false := by simp [h1]
      have HXX := Lib.hid (show flushP how held.data.toList at_ = ([], [((at_ : Int), (held.size : Int))], 18) from by rw [HXE.out, if_pos h1])
      clear h1
      go_enter_defers Tryd.func23, Tryd.ntmps23
      go_wp2_with fail
      refine HFA.out.mono ?_
      rintro e W3 ⟨rfl, ha3, hd3, hk3⟩
      have HA3 := Lib.hid ha3
      have HD3 := Lib.hid hd3
      have HK3 := Lib.hid (HK2.out.trans hk3 (fun _ _ h => h))
      clear ha3 hd3 hk3
      go_wp2_with fail
      obtain ⟨pvx, bvx, fvx, hpx, hbx, hrx⟩ := HA3.out
      have HF3 := Lib.hid hrx.2.2.1
      have HBX := Lib.hid hbx; clear hbx hrx hpx
      refine wp_region_noPanic ?_
      have d2 : W3.drew.cell? ⟨ab, 2, none⟩ = some fvx := by have := HBX.out.cell 2; simpa using this
      have hS0 : W3.drew.cell? ⟨ab, 2, none⟩ = some fvx := d2
      refine wp_region_held_drew (S := fun w' => w'.cell? ⟨ab, 2, none⟩ = some fvx) (by kernel_rfl) hS0 (fun hHeld => ?_)
      clear hS0 d2
      refine wpAnyH_takeD (i := 0) (d := some 30) (v := ?_) rfl rfl (by kernel_rfl) (by kernel_rfl) (by kernel_rfl) (fun _ _ _ h => h) (Or.inl ⟨by rfl, ?_⟩) (by assumption) ?_
      rotate_left
      · intro w hSw; (try dsimp only at hSw); go_simp; all_goals (with_reducible rfl)
      simp only [Act.put, List.setIfInBounds_toArray, List.set_cons_zero, List.set_cons_succ]
      refine wpAnyH_takeD (i := 1) (d := some 31) (v := ?_) rfl rfl (by kernel_rfl) (by kernel_rfl) (by kernel_rfl) (fun _ _ _ h => h) (Or.inl ⟨by rfl, ?_⟩) (by assumption) ?_
      rotate_left
      · intro w hSw; (try dsimp only at hSw); go_simp; all_goals (with_reducible rfl)
      simp only [Act.put, List.setIfInBounds_toArray, List.set_cons_zero, List.set_cons_succ]
      refine wpAnyH_takeD (i := 2) (d := some 2) (v := ?_) rfl rfl (by kernel_rfl) (by kernel_rfl) (by kernel_rfl) (fun _ _ _ h => h) (Or.inl ⟨by rfl, ?_⟩) (by assumption) ?_
      rotate_left
      · intro w hSw; (try dsimp only at hSw); go_simp; all_goals (with_reducible rfl)
      simp only [Act.put, List.setIfInBounds_toArray, List.set_cons_zero, List.set_cons_succ]
      refine wpAnyH_takeD (i := 3) (d := some 3) (v := ?_) rfl rfl (by kernel_rfl) (by kernel_rfl) (by kernel_rfl) (fun _ _ _ h => h) (Or.inl ⟨by rfl, ?_⟩) (by assumption) ?_
      rotate_left
      · intro w hSw; (try dsimp only at hSw); go_simp; all_goals (with_reducible rfl)
      simp only [Act.put, List.setIfInBounds_toArray, List.set_cons_zero, List.set_cons_succ]
      refine wpAnyH_takeD (i := 4) (d := some 4) (v := ?_) rfl rfl (by kernel_rfl) (by kernel_rfl) (by kernel_rfl) (fun _ _ _ h => h) (Or.inl ⟨by rfl, ?_⟩) (by assumption) ?_
      rotate_left
      · intro w hSw; (try dsimp only at hSw); go_simp; all_goals (with_reducible rfl)
      simp only [Act.put, List.setIfInBounds_toArray, List.set_cons_zero, List.set_cons_succ]
      refine wpAnyH_done (by kernel_rfl) ?_ _
      refine NoPanic.normal ?_
      clear hHeld
      have HD6 := Lib.hid (show DecB W3.drew db cb how _ _ false from HD3.out)
      have HK6 := Lib.hid (HK3.out.trans (Keep.of_drew _ W3) (fun _ _ h => h))
      have HF6 := Lib.hid (show OwnF ab W3.drew fvx _ from HF3.out)
      obtain ⟨W6, hW6⟩ : ∃ W, W3.drew = W := ⟨_, rfl⟩
      rw [hW6] at HD6 HK6 HF6 ⊢
      clear hW6
      go_wp2
      refine leaves_cons (f := 37) (args := #[.pointer (some ⟨db, 0, none⟩)]) (by simp) (by simp [go_sem]) ?_
      refine (closeD_any .returning db cb how _ _ false W6 HD6.out).mono ?_
      rintro e u' W7 ⟨rfl, rfl, hd7, hk7⟩
      refine ⟨_, results_tmp3 rfl _ _ _, fvx, [], _, 18, HXX.out, rfl, ownsRow_keepN HF6.out hk7 (fun j e h => by have := (World.ownsRow.lt HF6.out j e).1; omega), hd7, (HK6.out.trans (hk7.weaken (S' := fun j => j = db ∨ ab ≤ j) (fun j _ e => .inl e)) (fun _ _ h => h)).weaken (fun j hj e => by have := HAB.out; omega)⟩
    · have e1 : (how != 1) = true := by simp [h1]
      have HXX := Lib.hid (show flushP how held.data.toList at_ = (badOf how, [((at_ : Int), (held.size : Int))], 0) from by rw [HXE.out, if_neg h1])
      clear h1
      go_enter_defers Tryd.func23, Tryd.ntmps23
      go_wp2_with fail
      refine HFA.out.mono ?_
      rintro e W3 ⟨rfl, ha3, hd3, hk3⟩
      have HA3 := Lib.hid ha3
      have HD3 := Lib.hid hd3
      have HK3 := Lib.hid (HK2.out.trans hk3 (fun _ _ h => h))
      clear ha3 hd3 hk3
      go_wp2_with fail
      refine wp_region_noPanic ?_
      obtain ⟨pvx, bvx, fvx, hpx, hbx, hrx⟩ := HA3.out
      have HBX := Lib.hid hbx; clear hbx hrx hpx
      have d2 : W3.drew.cell? ⟨ab, 2, none⟩ = some fvx := by have := HBX.out.cell 2; simpa using this
      have hS0 : W3.drew.cell? ⟨ab, 2, none⟩ = some fvx := d2
      refine wp_region_held_drew (S := fun w' => w'.cell? ⟨ab, 2, none⟩ = some fvx) (by kernel_rfl) hS0 (fun hHeld => ?_)
      clear hS0 d2
      have HA5 := Lib.hid (HA3.out.below (Below.drew (Below.refl W3.heap.size W3)) rfl)
      have HD5 := Lib.hid (show DecB W3.drew db cb how _ _ false from HD3.out)
      have HK5 := Lib.hid (HK3.out.trans (Keep.of_drew _ W3) (fun _ _ h => h))
      obtain ⟨W5, hW5⟩ : ∃ W, W3.drew = W := ⟨_, rfl⟩
      rw [hW5] at HA5 HD5 HK5 hHeld ⊢
      clear hW5 HBX
      refine wpAnyH_takeD (i := 0) (d := some 32) (v := ?_) rfl rfl (by kernel_rfl) (by kernel_rfl) (by kernel_rfl) (fun _ _ _ h => h) (Or.inl ⟨by rfl, ?_⟩) (by assumption) ?_
      rotate_left
      · intro w hSw; (try dsimp only at hSw); go_simp; all_goals (with_reducible rfl)
      simp only [Act.put, List.setIfInBounds_toArray, List.set_cons_zero, List.set_cons_succ]
      refine wpAnyH_takeD (i := 2) (d := some 34) (v := ?_) rfl rfl (by kernel_rfl) (by kernel_rfl) (by kernel_rfl) (fun _ _ _ h => h) (Or.inl ⟨by rfl, ?_⟩) (by assumption) ?_
      rotate_left
      · intro w hSw; (try dsimp only at hSw); go_simp; all_goals (with_reducible rfl)
      simp only [Act.put, List.setIfInBounds_toArray, List.set_cons_zero, List.set_cons_succ]
      refine wpAnyH_takeD (i := 3) (d := some 35) (v := ?_) rfl rfl (by kernel_rfl) (by kernel_rfl) (by kernel_rfl) (fun _ _ _ h => h) (Or.inl ⟨by rfl, ?_⟩) (by assumption) ?_
      rotate_left
      · intro w hSw; (try dsimp only at hSw); go_simp; all_goals (with_reducible rfl)
      simp only [Act.put, List.setIfInBounds_toArray, List.set_cons_zero, List.set_cons_succ]
      refine wpAnyH_ready (rs := [1]) (by kernel_rfl) (by simp) ?_
      refine AllReadyH.cons (o := _) rfl (fun K hK => ?_) AllReadyH.nil
      have HB5 := Lib.hid (show ab ≤ W5.heap.size from by have := HK5.out.size; have := HAB.out; omega)
      go_simp
      refine (string_any ab ab _ _ W5 HA5.out HB5.out).mono ?_
      rintro e W6 ⟨rfl, hb6, pv6, bv6, fv6, hbk6, hf6, hc6⟩
      obtain rfl : fv6 = fvx := by have := hc6.symm.trans hHeld; simpa using this
      have d2 : W6.cell? ⟨ab, 2, none⟩ = some fv6 := by have := hbk6.cell 2; simpa using this
      have HD6 := Lib.hid (HD5.out.below hb6 hdl)
      have HK6 := Lib.hid (HK5.out.trans (⟨hb6.os, hb6.tape, hb6.output, hb6.size, fun k hk hn => hb6.block k (by simp only [not_or] at hn; omega)⟩ : Keep (fun j => j = db ∨ ab ≤ j) W5 W6) (fun _ _ h => h))
      have HF6 := Lib.hid hf6
      clear hc6 hbk6 hf6 hb6 HA5 HD5 HK5 HB5
      go_wp2_with fail
      refine hK.out _ _ d2 (fun hHeld => ?_)
      clear hK K d2
      try simp only [Act.put, List.setIfInBounds_toArray, List.set_cons_zero, List.set_cons_succ]
      refine wpAnyH_takeD (i := 4) (d := some 2) (v := ?_) rfl rfl (by kernel_rfl) (by kernel_rfl) (by kernel_rfl) (fun _ _ _ h => h) (Or.inl ⟨by rfl, ?_⟩) (by assumption) ?_
      rotate_left
      · intro w hSw; (try dsimp only at hSw); go_simp; all_goals (with_reducible rfl)
      simp only [Act.put, List.setIfInBounds_toArray, List.set_cons_zero, List.set_cons_succ]
      refine wpAnyH_takeD (i := 5) (d := some 3) (v := ?_) rfl rfl (by kernel_rfl) (by kernel_rfl) (by kernel_rfl) (fun _ _ _ h => h) (Or.inl ⟨by rfl, ?_⟩) (by assumption) ?_
      rotate_left
      · intro w hSw; (try dsimp only at hSw); go_simp; all_goals (with_reducible rfl)
      simp only [Act.put, List.setIfInBounds_toArray, List.set_cons_zero, List.set_cons_succ]
      refine wpAnyH_takeD (i := 6) (d := some 4) (v := ?_) rfl rfl (by kernel_rfl) (by kernel_rfl) (by kernel_rfl) (fun _ _ _ h => h) (Or.inl ⟨by rfl, ?_⟩) (by assumption) ?_
      rotate_left
      · intro w hSw; (try dsimp only at hSw); go_simp; all_goals (with_reducible rfl)
      simp only [Act.put, List.setIfInBounds_toArray, List.set_cons_zero, List.set_cons_succ]
      refine wpAnyH_done (by kernel_rfl) ?_ _
      refine NoPanic.normal ?_
      clear hHeld
      go_wp2
      refine leaves_cons (f := 37) (args := #[.pointer (some ⟨db, 0, none⟩)]) (by simp) (by simp [go_sem]) ?_
      refine (closeD_any .returning db cb how _ _ false W6 HD6.out).mono ?_
      rintro e u' W7 ⟨rfl, rfl, hd7, hk7⟩
      refine ⟨_, results_tmp3 rfl _ _ _, fv6, badOf how, _, 0, HXX.out, rfl, ownsRow_keepN HF6.out hk7 (fun j e h => by have := (World.ownsRow.lt HF6.out j e).1; omega), hd7, (HK6.out.trans (hk7.weaken (S' := fun j => j = db ∨ ab ≤ j) (fun j _ e => .inl e)) (fun _ _ h => h)).weaken (fun j hj e => by have := HAB.out; omega)⟩

end Go.Proofs.YtplobpelhcagpaaDoor
