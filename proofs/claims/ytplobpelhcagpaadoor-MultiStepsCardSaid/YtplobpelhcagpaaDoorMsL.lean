/-
  Multi: a decoder's Step.
-/
import Derived.Test.YtplobpelhcagpaaDoorMsK
namespace Go.Proofs.YtplobpelhcagpaaDoor
open Go.RowKit Go.Shelf Pl14

theorem lookT_mem {ps : List CT} {s t : Bytes} (h : lookT ps s = some t) : ∃ p ∈ ps, p.1.data.toList = s ∧ p.2.data.toList = t := by
  unfold lookT at h
  obtain ⟨p, hp, rfl⟩ := Option.map_eq_some_iff.1 h
  exact ⟨p, List.mem_of_find?_eq_some hp, by simpa using List.find?_some hp, rfl⟩
theorem nextP_cases (ps : List CT) (h : Bytes) {n : Nat} {t : Bytes} {er : Int} (e : nextP ps h = (n, t, er)) : (er = 0 ∧ 0 < n ∧ n ≤ h.length ∧ lookT ps (h.take n) = some t) ∨ (er = 18 ∧ n = 0 ∧ t = []) ∨ (er = 17 ∧ n = 0 ∧ t = []) := by
  unfold nextP at e
  cases hr : nextR ps [] h with
  | some x =>
    obtain ⟨m, u⟩ := x
    rw [hr] at e
    simp at e
    obtain ⟨rfl, rfl, rfl⟩ := e
    have := nextR_some hr
    simp at this
    exact .inl ⟨rfl, by omega, this.2.1, this.2.2⟩
  | none =>
    rw [hr] at e
    simp at e
    obtain ⟨rfl, rfl, rfl⟩ := e
    cases headB ps h
    · exact .inr (.inr ⟨rfl, rfl, rfl⟩)
    · exact .inr (.inl ⟨rfl, rfl, rfl⟩)

/-- what a step answers, and leaves -/
structure StepA where
  out : Bytes
  fs : List (Int × Int)
  held : Bytes
  at_ : Nat
  closed : Bool
  er : Int
deriving DecidableEq
def stepR (ps : List CT) (how : Int) : Nat → Bytes → List (Int × Int) → Bytes → Nat → StepA
  | 0, out, fs, held, at_ => ⟨out, fs, held, at_, false, 0⟩
  | f + 1, out, fs, held, at_ =>
    if held = [] then ⟨out, fs, held, at_, false, 0⟩
    else match nextP ps held with
      | (n, t, er) =>
        if er = 0 then stepR ps how f (out ++ t) fs (held.drop n) (at_ + n)
        else if er = 18 then ⟨out, fs, held, at_, false, 0⟩
        else if how = 1 then ⟨out ++ badOf how, fs ++ [((at_ : Int), 1)], [], at_ + 1, true, 17⟩
        else stepR ps how f (out ++ badOf how) (fs ++ [((at_ : Int), 1)]) (held.drop 1) (at_ + 1)
/-- what a step answers behind held bytes -/
def stepP (ps : List CT) (how : Int) (held : Bytes) (at_ : Nat) : StepA := stepR ps how (held.length + 1) [] [] held at_

def heldSize (w : World) (db : Nat) : Nat := match w.cell? ⟨db, 2, none⟩ with | some (.string h) => h.size | _ => 0
theorem DecB.heldSize {w : World} {db cb : Nat} {how at_ : Int} {held : ByteArray} {closed : Bool} (h : DecB w db cb how held at_ closed) : heldSize w db = held.size := by
  have : w.cell? ⟨db, 2, none⟩ = some (.string held) := by have := Blk.cell h 2; simpa using this
  unfold Go.Proofs.YtplobpelhcagpaaDoor.heldSize
  rw [this]
theorem toList_mk (l : Bytes) : (⟨l.toArray⟩ : ByteArray).data.toList = l := by simp
theorem size_mk (l : Bytes) : (⟨l.toArray⟩ : ByteArray).size = l.length := by rw [size_toList, toList_mk]
theorem extract_drop (b : ByteArray) (n : Nat) : (b.extract n b.size).data.toList = b.data.toList.drop n := by
  rw [ByteArray.data_extract, Array.toList_extract]
  unfold List.extract
  rw [List.take_of_length_le (by rw [List.length_drop, size_toList]; exact Nat.le_refl _)]
def textsLe (ps : List CT) : Prop := ∀ p ∈ ps, p.2.size ≤ 300000

set_option maxRecDepth 100000 in
set_option maxHeartbeats 16000000 in
theorem step_any (db cb : Nat) (how : Int) (held : ByteArray) (at_ : Nat) (ps : List CT) (s : ByteArray) (w : World) (hD : DecB w db cb how held at_ false) (hC : ChLow w cb ps db) (hps : textsLe ps) (hsz : held.size + s.size ≤ 500000) (hat : at_ ≤ 100000000) :
    Calls Tryd.prog 20 #[.pointer (some ⟨db, 0, none⟩), .string s] w fun e w' => ∃ v x, stepP ps how (held.data.toList ++ s.data.toList) at_ = x ∧ e = .returned (.tuple #[.string ⟨x.out.toArray⟩, v, .int .i64 x.er]) ∧
      OwnF w.heap.size w' v x.fs ∧ DecB w' db cb how ⟨x.held.toArray⟩ x.at_ x.closed ∧ Keep (fun j => j = db) w w' := by
  have HC := Lib.hid hC; clear hC
  have HD := Lib.hid hD; clear hD
  have c4 : w.cell? ⟨db, 4, none⟩ = some (.bool false) := by have := HD.out.cell 4; simpa using this
  have c2 : w.cell? ⟨db, 2, none⟩ = some (.string held) := by have := HD.out.cell 2; simpa using this
  have f2 := HD.out.frozen 2
  obtain ⟨hs, hhs⟩ : ∃ q, held ++ s = q := ⟨_, rfl⟩
  have hss : hs.size = held.size + s.size := by rw [← hhs, ByteArray.size_append]
  have hlist : hs.data.toList = held.data.toList ++ s.data.toList := by rw [← hhs]; simp
  rw [← hlist]
  have hd1 := HD.out.set 2 (.string hs)
  obtain ⟨W1, hW1⟩ : ∃ W, w.setCell ⟨db, 2, none⟩ (.string hs) = W := ⟨_, rfl⟩
  have hk1 : Keep (fun j => j = db) w W1 := by rw [← hW1]; exact Keep.of_setCell _ _ _ _
  rw [hW1] at hd1
  have hdl : db < w.heap.size := HD.out.lt
  have hs1 : W1.heap.size = w.heap.size := by rw [← hW1]; simp
  obtain ⟨ab, hab⟩ : ∃ q, W1.heap.size = q := ⟨_, rfl⟩
  have hbw : w.heap.size = ab := by omega
  obtain ⟨W2, hW2⟩ : ∃ W, W1.alloc (.cells #[.pointer none, .slice none 0 0, .slice none 0 0] 91) = W := ⟨_, rfl⟩
  have hA2 := Ans.new W1
  rw [hW2, hab] at hA2
  have hb2 : Below ab W1 W2 := by rw [← hW2, ← hab]; exact (Below.refl _ _).alloc (Nat.le_refl _) _
  have HD2 := Lib.hid (show DecB W2 db cb how hs at_ false from Blk.below (show Blk W1 db _ _ from hd1) hb2 (by omega))
  have hk2 : Keep (fun j => j = db ∨ ab ≤ j) w W2 := (hk1.weaken (S' := fun j => j = db ∨ ab ≤ j) (fun j _ e => .inl e)).trans (Keep.of_below hb2 hab.symm) (fun _ _ h => h)
  have HK2 := Lib.hid hk2
  have HA2 := Lib.hid hA2
  have HW1 := Lib.hid hs1
  have HLIST := Lib.hid hlist
  have HSS := Lib.hid hss
  have HBW := Lib.hid hbw
  clear hk1 hd1 hb2 hk2 hA2 hs1 hlist hss hbw
  obtain ⟨X, hX⟩ : ∃ X, stepP ps how hs.data.toList at_ = X := ⟨_, rfl⟩
  rw [hX]
  have HX := Lib.hid hX; clear hX
  rw [HBW.out]
  rw [HBW.out] at hdl
  obtain ⟨N0, hN0⟩ : ∃ n, hs.size = n := ⟨_, rfl⟩
  have hN0' : N0 ≤ 500000 := by rw [← hN0, HSS.out]; exact hsz
  have HN0 := Lib.hid hN0; clear hN0
  have hBw : ab ≤ w.heap.size := by rw [HBW.out]; exact Nat.le_refl _
  have HBw := Lib.hid hBw; clear hBw
  go_enter Tryd.func20, Tryd.ntmps20
  go_wp2
  go_loopw [8] (fun s8 wr => ∃ (f : Nat) (out : Bytes) (fs : List (Int × Int)) (hb : ByteArray) (at2 : Nat), Ans ab ab wr out fs ∧ DecB wr db cb how hb at2 false ∧ Keep (fun j => j = db ∨ ab ≤ j) w wr ∧ hb.size < f ∧ X = stepR ps how f out fs hb.data.toList at2 ∧ hb.size ≤ N0 ∧ out.length + 300000 * hb.size ≤ 300000 * N0 ∧ fs.length + hb.size ≤ N0 ∧ at2 + hb.size = at_ + N0) (fun _ wr => heldSize wr db)
  case atStart => exact ⟨hs.size + 1, [], [], hs, at_, HA2.out, HD2.out, HK2.out, by omega, by rw [← HX.out]; unfold stepP; rw [← size_toList], by rw [HN0.out]; exact Nat.le_refl _, by rw [HN0.out]; simp, by rw [HN0.out]; simp, by rw [HN0.out]⟩
  case round =>
    obtain ⟨f, out, fs, hb, at2, hA, hD2, hK, hf, hX, hb1, hb2, hb3, hb4⟩ := hrel
    have HA3 := Lib.hid hA; clear hA
    have HD3 := Lib.hid hD2; clear hD2
    have HK3 := Lib.hid hK; clear hK
    have HX3 := Lib.hid hX; clear hX
    have c2 : wr.cell? ⟨db, 2, none⟩ = some (.string hb) := by have := HD3.out.cell 2; simpa using this
    clear c2 c4 f2 hW1 hW2 hab
    have c2 : wr.cell? ⟨db, 2, none⟩ = some (.string hb) := by have := HD3.out.cell 2; simpa using this
    by_cases h0 : hb.data.toList = []
    · have e0 : hb.toList.isEmpty = true := by rw [ByteArray.toList_eq, h0]; rfl
      have HXE := Lib.hid (show X = ⟨out, fs, [], at2, false, 0⟩ from by
        rw [HX3.out]
        obtain ⟨f', rfl⟩ : ∃ f', f = f' + 1 := ⟨f - 1, by omega⟩
        unfold stepR
        rw [h0, if_pos rfl])
      have HB0 := Lib.hid (show hb = ⟨([] : Bytes).toArray⟩ from bytes_eq (by rw [h0]))
      clear h0
      go_wp2_with fail
      obtain ⟨pvx, bvx, fvx, hpx, hbx, hrx⟩ := HA3.out
      have HBX := Lib.hid hbx; clear hbx hrx hpx
      have d2 : wr.drew.cell? ⟨ab, 2, none⟩ = some fvx := by have := HBX.out.cell 2; simpa using this
      have hS0 : wr.drew.cell? ⟨ab, 2, none⟩ = some fvx := d2
      refine wp_region_held_drew (S := fun w' => w'.cell? ⟨ab, 2, none⟩ = some fvx) (by kernel_rfl) hS0 (fun hHeld => ?_)
      clear hS0 d2
      have HA5 := Lib.hid (HA3.out.below (Below.drew (Below.refl wr.heap.size wr)) rfl)
      have HD5 := Lib.hid (show DecB wr.drew db cb how _ _ _ from HD3.out)
      have HK5 := Lib.hid (HK3.out.trans (Keep.of_drew _ wr) (fun _ _ h => h))
      obtain ⟨W5, hW5⟩ : ∃ W, wr.drew = W := ⟨_, rfl⟩
      rw [hW5] at HA5 HD5 HK5 hHeld ⊢
      clear hW5 HBX
      refine wpAnyH_takeD (i := 0) (d := some 71) (v := ?_) rfl rfl (by kernel_rfl) (by kernel_rfl) (by kernel_rfl) (fun _ _ _ h => h) (Or.inl ⟨by rfl, ?_⟩) (by assumption) ?_
      rotate_left
      · intro w hSw; (try dsimp only at hSw); go_simp; all_goals (with_reducible rfl)
      simp only [Act.put, List.setIfInBounds_toArray, List.set_cons_zero, List.set_cons_succ]
      refine wpAnyH_takeD (i := 2) (d := some 73) (v := ?_) rfl rfl (by kernel_rfl) (by kernel_rfl) (by kernel_rfl) (fun _ _ _ h => h) (Or.inl ⟨by rfl, ?_⟩) (by assumption) ?_
      rotate_left
      · intro w hSw; (try dsimp only at hSw); go_simp; all_goals (with_reducible rfl)
      simp only [Act.put, List.setIfInBounds_toArray, List.set_cons_zero, List.set_cons_succ]
      refine wpAnyH_takeD (i := 3) (d := some 74) (v := ?_) rfl rfl (by kernel_rfl) (by kernel_rfl) (by kernel_rfl) (fun _ _ _ h => h) (Or.inl ⟨by rfl, ?_⟩) (by assumption) ?_
      rotate_left
      · intro w hSw; (try dsimp only at hSw); go_simp; all_goals (with_reducible rfl)
      simp only [Act.put, List.setIfInBounds_toArray, List.set_cons_zero, List.set_cons_succ]
      refine wpAnyH_ready (rs := [1]) (by kernel_rfl) (by simp) ?_
      refine AllReadyH.cons (o := _) rfl (fun K hK => ?_) AllReadyH.nil
      have HB5 := Lib.hid (Nat.le_trans HBw.out HK5.out.size)
      go_simp
      refine (string_any ab ab _ _ W5 HA5.out HB5.out).mono ?_
      rintro e W6 ⟨rfl, hb6, pv6, bv6, fv6, hbk6, hf6, hc6⟩
      obtain rfl : fv6 = fvx := by have := hc6.symm.trans hHeld; simpa using this
      have d2 : W6.cell? ⟨ab, 2, none⟩ = some fv6 := by have := hbk6.cell 2; simpa using this
      have HD6 := Lib.hid (HD5.out.below hb6 hdl)
      have HK6 := Lib.hid (HK5.out.trans (⟨hb6.os, hb6.tape, hb6.output, hb6.size, fun k hk hn => hb6.block k (by simp only [not_or] at hn; omega)⟩ : Keep (fun j => j = db ∨ ab ≤ j) W5 W6) (fun _ _ h => h))
      have HF6 := Lib.hid hf6
      clear hc6 hbk6 hf6 hb6 HA5 HD5 HK5 HB5
      go_wp2_with fail
      refine hK.out _ _ d2 (fun hHeld => ?_)
      clear hK K d2
      try simp only [Act.put, List.setIfInBounds_toArray, List.set_cons_zero, List.set_cons_succ]
      refine wpAnyH_takeD (i := 4) (d := some 4) (v := ?_) rfl rfl (by kernel_rfl) (by kernel_rfl) (by kernel_rfl) (fun _ _ _ h => h) (Or.inl ⟨by rfl, ?_⟩) (by assumption) ?_
      rotate_left
      · intro w hSw; (try dsimp only at hSw); go_simp; all_goals (with_reducible rfl)
      simp only [Act.put, List.setIfInBounds_toArray, List.set_cons_zero, List.set_cons_succ]
      refine wpAnyH_takeD (i := 5) (d := some 5) (v := ?_) rfl rfl (by kernel_rfl) (by kernel_rfl) (by kernel_rfl) (fun _ _ _ h => h) (Or.inl ⟨by rfl, ?_⟩) (by assumption) ?_
      rotate_left
      · intro w hSw; (try dsimp only at hSw); go_simp; all_goals (with_reducible rfl)
      simp only [Act.put, List.setIfInBounds_toArray, List.set_cons_zero, List.set_cons_succ]
      refine wpAnyH_takeD (i := 6) (d := some 6) (v := ?_) rfl rfl (by kernel_rfl) (by kernel_rfl) (by kernel_rfl) (fun _ _ _ h => h) (Or.inl ⟨by rfl, ?_⟩) (by assumption) ?_
      rotate_left
      · intro w hSw; (try dsimp only at hSw); go_simp; all_goals (with_reducible rfl)
      simp only [Act.put, List.setIfInBounds_toArray, List.set_cons_zero, List.set_cons_succ]
      refine wpAnyH_done (by kernel_rfl) ?_ _
      clear hHeld
      go_wp2
      go_ret3
      refine ⟨fv6, X, rfl, ?_, ?_, ?_, ?_⟩
      · rw [HXE.out]; rfl
      · rw [HXE.out]; exact HF6.out
      · rw [HXE.out]; have := HD6.out; rw [HB0.out] at this; exact this
      · exact HK6.out.weaken (fun j hj e => by have := HBW.out; omega)
    · have e0 : hb.toList.isEmpty = false := by rw [ByteArray.toList_eq]; cases h : hb.data.toList with | nil => exact absurd h h0 | cons _ _ => rfl
      have hpos : 0 < hb.size := by rw [size_toList]; exact List.length_pos_iff.2 h0
      obtain ⟨f', rfl⟩ : ∃ f', f = f' + 1 := ⟨f - 1, by omega⟩
      have HST := Lib.hid (show ∀ n t er, nextP ps hb.data.toList = (n, t, er) → X = if er = 0 then stepR ps how f' (out ++ t) fs (hb.data.toList.drop n) (at2 + n)
        else if er = 18 then ⟨out, fs, hb.data.toList, at2, false, 0⟩
        else if how = 1 then ⟨out ++ badOf how, fs ++ [((at2 : Int), 1)], [], at2 + 1, true, 17⟩
        else stepR ps how f' (out ++ badOf how) (fs ++ [((at2 : Int), 1)]) (hb.data.toList.drop 1) (at2 + 1) from by
          intro n t er hn
          rw [HX3.out]
          show stepR ps how (f' + 1) out fs hb.data.toList at2 = _
          rw [stepR, if_neg h0, hn])
      clear h0 HX3
      have HC3 := Lib.hid (show ChLow wr cb ps db from HC.out.below (HK3.out.below (S := fun j => j = db ∨ ab ≤ j) (by have := HBW.out; omega) (fun j hj => by omega)))
      have hcb : cb < db := by obtain ⟨_, _, _, _, _, _, _, _, _, h, _⟩ := HC3.out; exact h
      go_wp2_with fail
      have d0 : wr.drew.cell? ⟨db, 0, none⟩ = some (.pointer (some ⟨cb, 0, none⟩)) := by have := HD3.out.cell 0; simpa using this
      have hS0 : wr.drew.cell? ⟨db, 0, none⟩ = some (.pointer (some ⟨cb, 0, none⟩)) ∧ wr.drew.cell? ⟨db, 2, none⟩ = some (.string hb) := ⟨d0, c2⟩
      refine wp_region_held_drew (S := fun w' => w'.cell? ⟨db, 0, none⟩ = some (.pointer (some ⟨cb, 0, none⟩)) ∧ w'.cell? ⟨db, 2, none⟩ = some (.string hb)) (by kernel_rfl) hS0 (fun hHeld => ?_)
      clear hS0 d0 c2
      have HA4 := Lib.hid (HA3.out.below (Below.drew (Below.refl wr.heap.size wr)) rfl)
      have HD4 := Lib.hid (show DecB wr.drew db cb how hb at2 false from HD3.out)
      have HK4 := Lib.hid (HK3.out.trans (Keep.of_drew _ wr) (fun _ _ h => h))
      have HC4 := Lib.hid (show ChLow wr.drew cb ps db from HC3.out.below (Below.drew (Below.refl _ _)))
      have HMW := Lib.hid (show heldSize wr db = hb.size from HD3.out.heldSize)
      obtain ⟨W4, hW4⟩ : ∃ W, wr.drew = W := ⟨_, rfl⟩
      rw [hW4] at HA4 HD4 HK4 HC4 hHeld ⊢
      clear hW4 HA3 HD3 HK3 HC3
      refine wpAnyH_takeD (i := 0) (d := some 33) (v := ?_) rfl rfl (by kernel_rfl) (by kernel_rfl) (by kernel_rfl) (fun _ _ _ h => h) (Or.inl ⟨by rfl, ?_⟩) (by assumption) ?_
      rotate_left
      · intro w hSw; (try dsimp only at hSw); go_simp; all_goals (with_reducible rfl)
      simp only [Act.put, List.setIfInBounds_toArray, List.set_cons_zero, List.set_cons_succ]
      refine wpAnyH_takeD (i := 1) (d := some 34) (v := ?_) rfl rfl (by kernel_rfl) (by kernel_rfl) (by kernel_rfl) (fun _ _ _ h => h) (Or.inl ⟨by rfl, ?_⟩) (by assumption) ?_
      rotate_left
      · intro w hSw; (try dsimp only at hSw); go_simp; all_goals (with_reducible rfl)
      simp only [Act.put, List.setIfInBounds_toArray, List.set_cons_zero, List.set_cons_succ]
      refine wpAnyH_takeD (i := 2) (d := some 35) (v := ?_) rfl rfl (by kernel_rfl) (by kernel_rfl) (by kernel_rfl) (fun _ _ _ h => h) (Or.inl ⟨by rfl, ?_⟩) (by assumption) ?_
      rotate_left
      · intro w hSw; (try dsimp only at hSw); go_simp; all_goals (with_reducible rfl)
      simp only [Act.put, List.setIfInBounds_toArray, List.set_cons_zero, List.set_cons_succ]
      refine wpAnyH_takeD (i := 3) (d := some 36) (v := ?_) rfl rfl (by kernel_rfl) (by kernel_rfl) (by kernel_rfl) (fun _ _ _ h => h) (Or.inl ⟨by rfl, ?_⟩) (by assumption) ?_
      rotate_left
      · intro w hSw; (try dsimp only at hSw); go_simp; all_goals (with_reducible rfl)
      simp only [Act.put, List.setIfInBounds_toArray, List.set_cons_zero, List.set_cons_succ]
      refine wpAnyH_takeD (i := 4) (d := some 37) (v := ?_) rfl rfl (by kernel_rfl) (by kernel_rfl) (by kernel_rfl) (fun _ _ _ h => h) (Or.inl ⟨by rfl, ?_⟩) (by assumption) ?_
      rotate_left
      · intro w hSw; (try dsimp only at hSw); go_simp; all_goals (with_reducible rfl)
      simp only [Act.put, List.setIfInBounds_toArray, List.set_cons_zero, List.set_cons_succ]
      refine wpAnyH_takeD (i := 5) (d := some 38) (v := ?_) rfl rfl (by kernel_rfl) (by kernel_rfl) (by kernel_rfl) (fun _ _ _ h => h) (Or.inl ⟨by rfl, ?_⟩) (by assumption) ?_
      rotate_left
      · intro w hSw; (try dsimp only at hSw); go_simp; all_goals (with_reducible rfl)
      simp only [Act.put, List.setIfInBounds_toArray, List.set_cons_zero, List.set_cons_succ]
      refine wpAnyH_takeD (i := 6) (d := some 39) (v := ?_) rfl rfl (by kernel_rfl) (by kernel_rfl) (by kernel_rfl) (fun _ _ _ h => h) (Or.inl ⟨by rfl, ?_⟩) (by assumption) ?_
      rotate_left
      · intro w hSw; (try dsimp only at hSw); go_simp; all_goals (with_reducible rfl)
      simp only [Act.put, List.setIfInBounds_toArray, List.set_cons_zero, List.set_cons_succ]
      refine wpAnyH_takeD (i := 7) (d := some 40) (v := ?_) rfl rfl (by kernel_rfl) (by kernel_rfl) (by kernel_rfl) (fun _ _ _ h => h) (Or.inl ⟨by rfl, ?_⟩) (by assumption) ?_
      rotate_left
      · intro w hSw; (try dsimp only at hSw); go_simp; all_goals (with_reducible rfl)
      simp only [Act.put, List.setIfInBounds_toArray, List.set_cons_zero, List.set_cons_succ]
      refine wpAnyH_ready (rs := [8]) (by kernel_rfl) (by simp) ?_
      refine AllReadyH.cons (o := _) rfl (fun K hK => ?_) AllReadyH.nil
      go_simp
      refine (next_any cb ps hb W4 HC4.out.ok (by omega)).mono ?_
      rintro e W5 ⟨n, t, er, rfl, hnx, hb5⟩
      have hdl4 : db < W4.heap.size := HD4.out.lt
      have HA5 := Lib.hid (HA4.out.below hb5 rfl)
      have HD5 := Lib.hid (HD4.out.below hb5 hdl4)
      have HK5 := Lib.hid (HK4.out.trans (Keep.of_below hb5 rfl) (fun _ _ h => h))
      have HNX := Lib.hid hnx
      clear hdl4 hb5 hnx HA4 HD4 HK4 HC4 hHeld
      go_wp2_with fail
      have d0 : W5.cell? ⟨db, 0, none⟩ = some (.pointer (some ⟨cb, 0, none⟩)) := by have := HD5.out.cell 0; simpa using this
      have d2 : W5.cell? ⟨db, 2, none⟩ = some (.string hb) := by have := HD5.out.cell 2; simpa using this
      refine hK.out _ _ ⟨d0, d2⟩ (fun hHeld => ?_)
      clear hK K d0 d2
      try simp only [Act.put, List.setIfInBounds_toArray, List.set_cons_zero, List.set_cons_succ]
      refine wpAnyH_takeD (i := 9) (d := some 32) (v := ?_) rfl rfl (by kernel_rfl) (by kernel_rfl) (by kernel_rfl) (fun _ _ _ h => h) (Or.inl ⟨by rfl, ?_⟩) (by assumption) ?_
      rotate_left
      · intro w hSw; (try dsimp only at hSw); go_simp; all_goals (with_reducible rfl)
      simp only [Act.put, List.setIfInBounds_toArray, List.set_cons_zero, List.set_cons_succ]
      refine wpAnyH_takeD (i := 10) (d := some 42) (v := ?_) rfl rfl (by kernel_rfl) (by kernel_rfl) (by kernel_rfl) (fun _ _ _ h => h) (Or.inl ⟨by rfl, ?_⟩) (by assumption) ?_
      rotate_left
      · intro w hSw; (try dsimp only at hSw); go_simp; all_goals (with_reducible rfl)
      simp only [Act.put, List.setIfInBounds_toArray, List.set_cons_zero, List.set_cons_succ]
      refine wpAnyH_takeD (i := 11) (d := some 43) (v := ?_) rfl rfl (by kernel_rfl) (by kernel_rfl) (by kernel_rfl) (fun _ _ _ h => h) (Or.inl ⟨by rfl, ?_⟩) (by assumption) ?_
      rotate_left
      · intro w hSw; (try dsimp only at hSw); go_simp; all_goals (with_reducible rfl)
      simp only [Act.put, List.setIfInBounds_toArray, List.set_cons_zero, List.set_cons_succ]
      refine wpAnyH_takeD (i := 12) (d := some 44) (v := ?_) rfl rfl (by kernel_rfl) (by kernel_rfl) (by kernel_rfl) (fun _ _ _ h => h) (Or.inl ⟨by rfl, ?_⟩) (by assumption) ?_
      rotate_left
      · intro w hSw; (try dsimp only at hSw); go_simp; all_goals (with_reducible rfl)
      simp only [Act.put, List.setIfInBounds_toArray, List.set_cons_zero, List.set_cons_succ]
      refine wpAnyH_takeD (i := 13) (d := some 8) (v := ?_) rfl rfl (by kernel_rfl) (by kernel_rfl) (by kernel_rfl) (fun _ _ _ h => h) (Or.inl ⟨by rfl, ?_⟩) (by assumption) ?_
      rotate_left
      · intro w hSw; (try dsimp only at hSw); go_simp; all_goals (with_reducible rfl)
      simp only [Act.put, List.setIfInBounds_toArray, List.set_cons_zero, List.set_cons_succ]
      refine wpAnyH_takeD (i := 14) (d := some 9) (v := ?_) rfl rfl (by kernel_rfl) (by kernel_rfl) (by kernel_rfl) (fun _ _ _ h => h) (Or.inl ⟨by rfl, ?_⟩) (by assumption) ?_
      rotate_left
      · intro w hSw; (try dsimp only at hSw); go_simp; all_goals (with_reducible rfl)
      simp only [Act.put, List.setIfInBounds_toArray, List.set_cons_zero, List.set_cons_succ]
      refine wpAnyH_takeD (i := 15) (d := some 10) (v := ?_) rfl rfl (by kernel_rfl) (by kernel_rfl) (by kernel_rfl) (fun _ _ _ h => h) (Or.inl ⟨by rfl, ?_⟩) (by assumption) ?_
      rotate_left
      · intro w hSw; (try dsimp only at hSw); go_simp; all_goals (with_reducible rfl)
      simp only [Act.put, List.setIfInBounds_toArray, List.set_cons_zero, List.set_cons_succ]
      refine wpAnyH_done (by kernel_rfl) ?_ _
      clear hHeld
      have HB5 := Lib.hid (Nat.le_trans HBw.out HK5.out.size)
      rcases nextP_cases ps _ HNX.out with ⟨rfl, hn0, hn1, hlk⟩ | ⟨rfl, rfl, rfl⟩ | ⟨rfl, rfl, rfl⟩
      · have ht : t.length ≤ 300000 := by
          obtain ⟨p, hp, _, rfl⟩ := lookT_mem hlk
          have := hps p hp
          rw [← size_toList]; exact this
        have hn1' : n ≤ hb.size := by rw [size_toList]; exact hn1
        have HXN := Lib.hid (show X = stepR ps how f' (out ++ t) fs (hb.data.toList.drop n) (at2 + n) from by rw [HST.out n t 0 HNX.out, if_pos rfl])
        have hst : (⟨t.toArray⟩ : ByteArray).size = t.length := size_mk t
        have HSTT := Lib.hid hst; clear hst
        clear HST HNX hlk hn1
        go_wp2_with fail
        refine (writeString_any ab ab out fs ⟨t.toArray⟩ W5 HA5.out (by rw [HSTT.out]; omega) HB5.out).mono ?_
        rintro e W6 ⟨rfl, ha6, hb6, _⟩
        have HA6 := Lib.hid (show Ans ab ab W6 (out ++ t) fs from by rw [toList_mk] at ha6; exact ha6)
        have HD6 := Lib.hid (HD5.out.below hb6 hdl)
        have HK6 := Lib.hid (HK5.out.trans (⟨hb6.os, hb6.tape, hb6.output, hb6.size, fun k hk hn => hb6.block k (by simp only [not_or] at hn; omega)⟩ : Keep (fun j => j = db ∨ ab ≤ j) W5 W6) (fun _ _ h => h))
        clear ha6 hb6 HA5 HD5 HK5
        go_wp2_with fail
        refine (gone_any db cb how hb at2 false n W6 HD6.out hn1' (by omega) (by omega)).mono ?_
        rintro e W7 ⟨rfl, hd7, hk7⟩
        have HA7 := Lib.hid (HA6.out.keep hk7 (fun j hj e => by omega))
        have HK7 := Lib.hid (HK6.out.trans (hk7.weaken (S' := fun j => j = db ∨ ab ≤ j) (fun j _ e => .inl e)) (fun _ _ h => h))
        have HD7 := Lib.hid hd7
        have hexs : (hb.extract n hb.size).size = hb.size - n := by rw [size_toList, extract_drop, List.length_drop, ← size_toList]
        have HEX := Lib.hid hexs
        clear hd7 hk7 HA6 HD6 HK6 hexs
        go_wp2
        go_roundw
        case rel =>
          refine ⟨f', out ++ t, fs, hb.extract n hb.size, at2 + n, HA7.out, HD7.out, HK7.out, by rw [HEX.out]; omega, by rw [extract_drop]; exact HXN.out, by rw [HEX.out]; omega, ?_, by rw [HEX.out]; omega, by rw [HEX.out]; omega⟩
          rw [HEX.out, List.length_append]
          have : 300000 * (hb.size - n) + 300000 ≤ 300000 * hb.size := by omega
          omega
        case measure => rw [HD7.out.heldSize, HMW.out, HEX.out]; omega
      · have HXE := Lib.hid (show X = ⟨out, fs, hb.data.toList, at2, false, 0⟩ from by rw [HST.out _ _ _ HNX.out, if_neg (by decide), if_pos rfl])
        clear HST HNX
        go_wp2_with fail
        obtain ⟨pvx, bvx, fvx, hpx, hbx, hrx⟩ := HA5.out
        have HBX := Lib.hid hbx; clear hbx hrx hpx
        have d2 : W5.drew.cell? ⟨ab, 2, none⟩ = some fvx := by have := HBX.out.cell 2; simpa using this
        have hS0 : W5.drew.cell? ⟨ab, 2, none⟩ = some fvx := d2
        refine wp_region_held_drew (S := fun w' => w'.cell? ⟨ab, 2, none⟩ = some fvx) (by kernel_rfl) hS0 (fun hHeld => ?_)
        clear hS0 d2
        have HA5 := Lib.hid (HA5.out.below (Below.drew (Below.refl W5.heap.size W5)) rfl)
        have HD5 := Lib.hid (show DecB W5.drew db cb how _ _ _ from HD5.out)
        have HK5 := Lib.hid (HK5.out.trans (Keep.of_drew _ W5) (fun _ _ h => h))
        obtain ⟨W5, hW5⟩ : ∃ W, W5.drew = W := ⟨_, rfl⟩
        rw [hW5] at HA5 HD5 HK5 hHeld ⊢
        clear hW5 HBX
        refine wpAnyH_takeD (i := 0) (d := some 57) (v := ?_) rfl rfl (by kernel_rfl) (by kernel_rfl) (by kernel_rfl) (fun _ _ _ h => h) (Or.inl ⟨by rfl, ?_⟩) (by assumption) ?_
        rotate_left
        · intro w hSw; (try dsimp only at hSw); go_simp; all_goals (with_reducible rfl)
        simp only [Act.put, List.setIfInBounds_toArray, List.set_cons_zero, List.set_cons_succ]
        refine wpAnyH_takeD (i := 2) (d := some 59) (v := ?_) rfl rfl (by kernel_rfl) (by kernel_rfl) (by kernel_rfl) (fun _ _ _ h => h) (Or.inl ⟨by rfl, ?_⟩) (by assumption) ?_
        rotate_left
        · intro w hSw; (try dsimp only at hSw); go_simp; all_goals (with_reducible rfl)
        simp only [Act.put, List.setIfInBounds_toArray, List.set_cons_zero, List.set_cons_succ]
        refine wpAnyH_takeD (i := 3) (d := some 60) (v := ?_) rfl rfl (by kernel_rfl) (by kernel_rfl) (by kernel_rfl) (fun _ _ _ h => h) (Or.inl ⟨by rfl, ?_⟩) (by assumption) ?_
        rotate_left
        · intro w hSw; (try dsimp only at hSw); go_simp; all_goals (with_reducible rfl)
        simp only [Act.put, List.setIfInBounds_toArray, List.set_cons_zero, List.set_cons_succ]
        refine wpAnyH_ready (rs := [1]) (by kernel_rfl) (by simp) ?_
        refine AllReadyH.cons (o := _) rfl (fun K hK => ?_) AllReadyH.nil
        have HB5 := Lib.hid (Nat.le_trans HBw.out HK5.out.size)
        go_simp
        refine (string_any ab ab _ _ W5 HA5.out HB5.out).mono ?_
        rintro e W6 ⟨rfl, hb6, pv6, bv6, fv6, hbk6, hf6, hc6⟩
        obtain rfl : fv6 = fvx := by have := hc6.symm.trans hHeld; simpa using this
        have d2 : W6.cell? ⟨ab, 2, none⟩ = some fv6 := by have := hbk6.cell 2; simpa using this
        have HD6 := Lib.hid (HD5.out.below hb6 hdl)
        have HK6 := Lib.hid (HK5.out.trans (⟨hb6.os, hb6.tape, hb6.output, hb6.size, fun k hk hn => hb6.block k (by simp only [not_or] at hn; omega)⟩ : Keep (fun j => j = db ∨ ab ≤ j) W5 W6) (fun _ _ h => h))
        have HF6 := Lib.hid hf6
        clear hc6 hbk6 hf6 hb6 HA5 HD5 HK5 HB5
        go_wp2_with fail
        refine hK.out _ _ d2 (fun hHeld => ?_)
        clear hK K d2
        try simp only [Act.put, List.setIfInBounds_toArray, List.set_cons_zero, List.set_cons_succ]
        refine wpAnyH_takeD (i := 4) (d := some 4) (v := ?_) rfl rfl (by kernel_rfl) (by kernel_rfl) (by kernel_rfl) (fun _ _ _ h => h) (Or.inl ⟨by rfl, ?_⟩) (by assumption) ?_
        rotate_left
        · intro w hSw; (try dsimp only at hSw); go_simp; all_goals (with_reducible rfl)
        simp only [Act.put, List.setIfInBounds_toArray, List.set_cons_zero, List.set_cons_succ]
        refine wpAnyH_takeD (i := 5) (d := some 5) (v := ?_) rfl rfl (by kernel_rfl) (by kernel_rfl) (by kernel_rfl) (fun _ _ _ h => h) (Or.inl ⟨by rfl, ?_⟩) (by assumption) ?_
        rotate_left
        · intro w hSw; (try dsimp only at hSw); go_simp; all_goals (with_reducible rfl)
        simp only [Act.put, List.setIfInBounds_toArray, List.set_cons_zero, List.set_cons_succ]
        refine wpAnyH_takeD (i := 6) (d := some 6) (v := ?_) rfl rfl (by kernel_rfl) (by kernel_rfl) (by kernel_rfl) (fun _ _ _ h => h) (Or.inl ⟨by rfl, ?_⟩) (by assumption) ?_
        rotate_left
        · intro w hSw; (try dsimp only at hSw); go_simp; all_goals (with_reducible rfl)
        simp only [Act.put, List.setIfInBounds_toArray, List.set_cons_zero, List.set_cons_succ]
        refine wpAnyH_done (by kernel_rfl) ?_ _
        clear hHeld
        go_wp2
        go_ret3
        refine ⟨fv6, X, rfl, ?_, ?_, ?_, ?_⟩
        · rw [HXE.out]; rfl
        · rw [HXE.out]; exact HF6.out
        · rw [HXE.out]; have := HD6.out; exact this
        · exact HK6.out.weaken (fun j hj e => by have := HBW.out; omega)
      · have HX17 := Lib.hid (show X = if how = 1 then ⟨out ++ badOf how, fs ++ [((at2 : Int), 1)], [], at2 + 1, true, 17⟩ else stepR ps how f' (out ++ badOf how) (fs ++ [((at2 : Int), 1)]) (hb.data.toList.drop 1) (at2 + 1) from by rw [HST.out _ _ _ HNX.out, if_neg (by decide), if_neg (by decide)])
        clear HST HNX
        go_wp2_with fail
        have HFA := Lib.hid (fault_any ab ab db cb how hb at2 1 false out fs W5 HA5.out HD5.out hdl HB5.out hpos (by omega) (by omega) (by omega) (by omega))
        refine HFA.out.mono ?_
        rintro e W6 ⟨rfl, ha6, hd6, hk6⟩
        have HA6 := Lib.hid ha6
        have HD6 := Lib.hid hd6
        have HK6 := Lib.hid (HK5.out.trans hk6 (fun _ _ h => h))
        have hexs : (hb.extract 1 hb.size).size = hb.size - 1 := by rw [size_toList, extract_drop, List.length_drop, ← size_toList]
        have HEX := Lib.hid hexs
        clear ha6 hd6 hk6 hexs HA5 HD5 HK5 HFA HB5
        by_cases h1 : how = 1
        · have e1 : (how != 1) = false := by simp [h1]
          have HXE := Lib.hid (show X = ⟨out ++ badOf how, fs ++ [((at2 : Int), 1)], [], at2 + 1, true, 17⟩ from by rw [HX17.out, if_pos h1])
          clear h1
          go_wp2_with fail
          refine (close_any db cb how _ _ false W6 HD6.out).mono ?_
          rintro e W7 ⟨rfl, hd7, hk7⟩
          have HA7 := Lib.hid (HA6.out.keep hk7 (fun j hj e => by omega))
          have HK7 := Lib.hid (HK6.out.trans (hk7.weaken (S' := fun j => j = db ∨ ab ≤ j) (fun j _ e => .inl e)) (fun _ _ h => h))
          have HD7 := Lib.hid hd7
          clear hd7 hk7 HA6 HD6 HK6
          go_wp2_with fail
          obtain ⟨pvx, bvx, fvx, hpx, hbx, hrx⟩ := HA7.out
          have HBX := Lib.hid hbx; clear hbx hrx hpx
          have d2 : W7.drew.cell? ⟨ab, 2, none⟩ = some fvx := by have := HBX.out.cell 2; simpa using this
          have hS0 : W7.drew.cell? ⟨ab, 2, none⟩ = some fvx := d2
          refine wp_region_held_drew (S := fun w' => w'.cell? ⟨ab, 2, none⟩ = some fvx) (by kernel_rfl) hS0 (fun hHeld => ?_)
          clear hS0 d2
          have HA5 := Lib.hid (HA7.out.below (Below.drew (Below.refl W7.heap.size W7)) rfl)
          have HD5 := Lib.hid (show DecB W7.drew db cb how _ _ _ from HD7.out)
          have HK5 := Lib.hid (HK7.out.trans (Keep.of_drew _ W7) (fun _ _ h => h))
          obtain ⟨W5, hW5⟩ : ∃ W, W7.drew = W := ⟨_, rfl⟩
          rw [hW5] at HA5 HD5 HK5 hHeld ⊢
          clear hW5 HBX
          refine wpAnyH_takeD (i := 0) (d := some 67) (v := ?_) rfl rfl (by kernel_rfl) (by kernel_rfl) (by kernel_rfl) (fun _ _ _ h => h) (Or.inl ⟨by rfl, ?_⟩) (by assumption) ?_
          rotate_left
          · intro w hSw; (try dsimp only at hSw); go_simp; all_goals (with_reducible rfl)
          simp only [Act.put, List.setIfInBounds_toArray, List.set_cons_zero, List.set_cons_succ]
          refine wpAnyH_takeD (i := 2) (d := some 69) (v := ?_) rfl rfl (by kernel_rfl) (by kernel_rfl) (by kernel_rfl) (fun _ _ _ h => h) (Or.inl ⟨by rfl, ?_⟩) (by assumption) ?_
          rotate_left
          · intro w hSw; (try dsimp only at hSw); go_simp; all_goals (with_reducible rfl)
          simp only [Act.put, List.setIfInBounds_toArray, List.set_cons_zero, List.set_cons_succ]
          refine wpAnyH_takeD (i := 3) (d := some 70) (v := ?_) rfl rfl (by kernel_rfl) (by kernel_rfl) (by kernel_rfl) (fun _ _ _ h => h) (Or.inl ⟨by rfl, ?_⟩) (by assumption) ?_
          rotate_left
          · intro w hSw; (try dsimp only at hSw); go_simp; all_goals (with_reducible rfl)
          simp only [Act.put, List.setIfInBounds_toArray, List.set_cons_zero, List.set_cons_succ]
          refine wpAnyH_ready (rs := [1]) (by kernel_rfl) (by simp) ?_
          refine AllReadyH.cons (o := _) rfl (fun K hK => ?_) AllReadyH.nil
          have HB5 := Lib.hid (Nat.le_trans HBw.out HK5.out.size)
          go_simp
          refine (string_any ab ab _ _ W5 HA5.out HB5.out).mono ?_
          rintro e W6 ⟨rfl, hb6, pv6, bv6, fv6, hbk6, hf6, hc6⟩
          obtain rfl : fv6 = fvx := by have := hc6.symm.trans hHeld; simpa using this
          have d2 : W6.cell? ⟨ab, 2, none⟩ = some fv6 := by have := hbk6.cell 2; simpa using this
          have HD6 := Lib.hid (HD5.out.below hb6 hdl)
          have HK6 := Lib.hid (HK5.out.trans (⟨hb6.os, hb6.tape, hb6.output, hb6.size, fun k hk hn => hb6.block k (by simp only [not_or] at hn; omega)⟩ : Keep (fun j => j = db ∨ ab ≤ j) W5 W6) (fun _ _ h => h))
          have HF6 := Lib.hid hf6
          clear hc6 hbk6 hf6 hb6 HA5 HD5 HK5 HB5
          go_wp2_with fail
          refine hK.out _ _ d2 (fun hHeld => ?_)
          clear hK K d2
          try simp only [Act.put, List.setIfInBounds_toArray, List.set_cons_zero, List.set_cons_succ]
          refine wpAnyH_takeD (i := 4) (d := some 4) (v := ?_) rfl rfl (by kernel_rfl) (by kernel_rfl) (by kernel_rfl) (fun _ _ _ h => h) (Or.inl ⟨by rfl, ?_⟩) (by assumption) ?_
          rotate_left
          · intro w hSw; (try dsimp only at hSw); go_simp; all_goals (with_reducible rfl)
          simp only [Act.put, List.setIfInBounds_toArray, List.set_cons_zero, List.set_cons_succ]
          refine wpAnyH_takeD (i := 5) (d := some 5) (v := ?_) rfl rfl (by kernel_rfl) (by kernel_rfl) (by kernel_rfl) (fun _ _ _ h => h) (Or.inl ⟨by rfl, ?_⟩) (by assumption) ?_
          rotate_left
          · intro w hSw; (try dsimp only at hSw); go_simp; all_goals (with_reducible rfl)
          simp only [Act.put, List.setIfInBounds_toArray, List.set_cons_zero, List.set_cons_succ]
          refine wpAnyH_takeD (i := 6) (d := some 6) (v := ?_) rfl rfl (by kernel_rfl) (by kernel_rfl) (by kernel_rfl) (fun _ _ _ h => h) (Or.inl ⟨by rfl, ?_⟩) (by assumption) ?_
          rotate_left
          · intro w hSw; (try dsimp only at hSw); go_simp; all_goals (with_reducible rfl)
          simp only [Act.put, List.setIfInBounds_toArray, List.set_cons_zero, List.set_cons_succ]
          refine wpAnyH_done (by kernel_rfl) ?_ _
          clear hHeld
          go_wp2
          go_ret3
          refine ⟨fv6, X, rfl, ?_, ?_, ?_, ?_⟩
          · rw [HXE.out]; rfl
          · rw [HXE.out]; exact HF6.out
          · rw [HXE.out]; have := HD6.out; exact this
          · exact HK6.out.weaken (fun j hj e => by have := HBW.out; omega)
        · have e1 : (how != 1) = true := by simp [h1]
          have HXN := Lib.hid (show X = stepR ps how f' (out ++ badOf how) (fs ++ [((at2 : Int), 1)]) (hb.data.toList.drop 1) (at2 + 1) from by rw [HX17.out, if_neg h1])
          have hbl : (badOf how).length ≤ 3 := by unfold badOf; split <;> simp [badB]
          have HBL := Lib.hid hbl
          clear h1 hbl HX17
          go_wp2
          go_roundw
          case rel =>
            refine ⟨f', out ++ badOf how, fs ++ [((at2 : Int), 1)], hb.extract 1 hb.size, at2 + 1, HA6.out, HD6.out, HK6.out, by rw [HEX.out]; omega, by rw [extract_drop]; exact HXN.out, by rw [HEX.out]; omega, ?_, by rw [HEX.out, List.length_append]; simp; omega, by rw [HEX.out]; omega⟩
            rw [HEX.out, List.length_append]
            have := HBL.out
            omega
          case measure => rw [HD6.out.heldSize, HMW.out, HEX.out]; omega

end Go.Proofs.YtplobpelhcagpaaDoor
