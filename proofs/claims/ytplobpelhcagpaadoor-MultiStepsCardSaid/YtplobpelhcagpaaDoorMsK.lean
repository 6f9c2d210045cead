/-
  Multi: a charset's Next.
-/
import Derived.Test.YtplobpelhcagpaaDoorMsJ
namespace Go.Proofs.YtplobpelhcagpaaDoor
open Go.RowKit Go.Shelf Pl14

/-- the code with which bytes go on behind others that are none -/
def nextR (ps : List CT) (pre : Bytes) : Bytes → Option (Nat × Bytes)
  | [] => none
  | b :: r => match lookT ps (pre ++ [b]) with
    | some t => some (pre.length + 1, t)
    | none => nextR ps (pre ++ [b]) r
theorem nextR_step (ps : List CT) (h : Bytes) (i : Nat) (hi : i < h.length) : nextR ps (h.take i) (h.drop i) = match lookT ps (h.take (i + 1)) with | some t => some (i + 1, t) | none => nextR ps (h.take (i + 1)) (h.drop (i + 1)) := by
  rw [List.drop_eq_getElem_cons hi]
  have e : h.take i ++ [h[i]] = h.take (i + 1) := by rw [List.take_succ_eq_append_getElem hi]
  have hl : (h.take i).length = i := by rw [List.length_take]; omega
  show (match lookT ps (h.take i ++ [h[i]]) with | some t => some ((h.take i).length + 1, t) | none => nextR ps (h.take i ++ [h[i]]) (h.drop (i + 1))) = _
  rw [e, hl]
theorem nextR_end (ps : List CT) (h : Bytes) : nextR ps (h.take h.length) (h.drop h.length) = none := by simp [nextR]
theorem nextR_some {ps : List CT} : ∀ {r pre : Bytes} {n : Nat} {t : Bytes}, nextR ps pre r = some (n, t) → pre.length < n ∧ n ≤ pre.length + r.length ∧ lookT ps ((pre ++ r).take n) = some t
  | [], _, _, _, h => by simp [nextR] at h
  | b :: r, pre, n, t, h => by
    unfold nextR at h
    cases hl : lookT ps (pre ++ [b]) with
    | some t' =>
      rw [hl] at h
      simp at h
      obtain ⟨rfl, rfl⟩ := h
      refine ⟨by omega, by simp, ?_⟩
      rw [← hl]
      congr 1
      rw [show pre ++ b :: r = (pre ++ [b]) ++ r by simp, List.take_append_of_le_length (by simp)]
      rw [show pre.length + 1 = (pre ++ [b]).length by simp, List.take_length]
    | none =>
      rw [hl] at h
      obtain ⟨h1, h2, h3⟩ := nextR_some (r := r) (pre := pre ++ [b]) h
      simp at h1 h2 h3
      exact ⟨by omega, by simp; omega, h3⟩

/-- a charset that can be read -/
def ChOk (w : World) (cb : Nat) (ps : List CT) : Prop := ∃ tm hm c0 c1 c2 c5 c6 B, CsI cb tm hm c0 c1 c2 c5 c6 ps (headB ps) B w
theorem ChOk.below {w w' : World} {cb n : Nat} {ps : List CT} (h : ChOk w cb ps) (hb : Below n w w') (hn : n = w.heap.size) : ChOk w' cb ps := by
  obtain ⟨tm, hm, c0, c1, c2, c5, c6, B, h⟩ := h
  subst hn
  exact ⟨tm, hm, c0, c1, c2, c5, c6, B, h.below hb⟩
theorem Keep.grown {S : Nat → Prop} {w w' : World} (h : Keep S w w') {b : Nat} (hs : ∀ j, S j → j = b ∨ w.heap.size ≤ j) : w.grownBy w' (some b) := ⟨h.os, h.tape, h.output, h.size, fun k hk hn => h.block k hk (fun e => by
  rcases hs k e with h' | h'
  · exact hn (by rw [h'])
  · omega)⟩
/-- what a charset wants kept: its block and its maps lie below N -/
def ChLow (w : World) (cb : Nat) (ps : List CT) (N : Nat) : Prop := ∃ tm hm c0 c1 c2 c5 c6 B, CsI cb tm hm c0 c1 c2 c5 c6 ps (headB ps) B w ∧ cb < N ∧ tm < N ∧ hm < N
theorem ChLow.ok {w : World} {cb N : Nat} {ps : List CT} (h : ChLow w cb ps N) : ChOk w cb ps := by
  obtain ⟨tm, hm, c0, c1, c2, c5, c6, B, h, _⟩ := h
  exact ⟨tm, hm, c0, c1, c2, c5, c6, B, h⟩
theorem CsI.low {cb tm hm B N : Nat} {c0 c1 c2 c5 c6 : Value} {ps : List CT} {hb : List UInt8 → Bool} {wr w' : World} (h : CsI cb tm hm c0 c1 c2 c5 c6 ps hb B wr) (hbl : Below N wr w') (h1 : cb < N) (h2 : tm < N) (h3 : hm < N) : CsI cb tm hm c0 c1 c2 c5 c6 ps hb B w' := by
  obtain ⟨n, D, hn, hD, hT⟩ := h.tex
  obtain ⟨n2, D2, hn2, hD2, hT2⟩ := h.hea
  obtain ⟨es, cl, he, hr⟩ := hD
  obtain ⟨es2, cl2, he2, hr2⟩ := hD2
  exact ⟨h.blk.below hbl h1, ⟨n, D, hn, ⟨es, cl, (hbl.block tm h2).trans he, hr⟩, hT⟩, ⟨n2, D2, hn2, ⟨es2, cl2, (hbl.block hm h3).trans he2, hr2⟩, hT2⟩, h.ne⟩
theorem ChLow.below {w w' : World} {cb N : Nat} {ps : List CT} (h : ChLow w cb ps N) (hb : Below N w w') : ChLow w' cb ps N := by
  obtain ⟨tm, hm, c0, c1, c2, c5, c6, B, h, h1, h2, h3⟩ := h
  exact ⟨tm, hm, c0, c1, c2, c5, c6, B, h.low hb h1 h2 h3, h1, h2, h3⟩

/-- what Next answers -/
def nextP (ps : List CT) (h : Bytes) : Nat × Bytes × Int := match nextR ps [] h with
  | some (n, t) => (n, t, 0)
  | none => (0, [], if headB ps h then 18 else 17)

set_option maxRecDepth 100000 in
set_option maxHeartbeats 8000000 in
theorem next_any (cb : Nat) (ps : List CT) (s : ByteArray) (w : World) (hC : ChOk w cb ps) (hs : s.size ≤ 1000000) :
    Calls Tryd.prog 34 #[.pointer (some ⟨cb, 0, none⟩), .string s] w fun e w' => ∃ (n : Nat) (t : Bytes) (er : Int), e = .returned (.tuple #[.int .i64 n, .string ⟨t.toArray⟩, .int .i64 er]) ∧ nextP ps s.data.toList = (n, t, er) ∧ Below w.heap.size w w' := by
  have hsz : ∀ s : ByteArray, s.size ≤ 1000000 → s.size ≤ maxLen := fun s h => by unfold maxLen; omega
  obtain ⟨tm, hm, c0, c1, c2, c5, c6, B, hI⟩ := hC
  have HI := Lib.hid hI; clear hI
  have hkeyS := WideMaps.keyOf_string_mk (P := Tryd.prog) Tryd.underlying9 (hsz s hs)
  have HKEYS := Lib.hid hkeyS; clear hkeyS
  go_enter Tryd.func34, Tryd.ntmps34
  go_wp2
  go_loopw [14] (fun s14 wr => ∃ i : Nat, i ≤ s.size ∧ s14 = .int .i64 i ∧ CsI cb tm hm c0 c1 c2 c5 c6 ps (headB ps) B wr ∧ Below w.heap.size w wr ∧ nextR ps [] s.data.toList = nextR ps (s.data.toList.take i) (s.data.toList.drop i)) (fun s14 _ => s.size - (intOf s14).toNat)
  case atStart => exact ⟨0, Nat.zero_le _, rfl, HI.out, Below.refl _ _, by simp⟩
  case round =>
    obtain ⟨i, hi, rfl, hI4, hB4, hno⟩ := hrel
    have HI4 := Lib.hid hI4; clear hI4
    have HB4 := Lib.hid hB4; clear hB4
    have HNO := Lib.hid hno; clear hno
    by_cases hlt : i < s.size
    · have i0 : (0 : Int) ≤ (i : Int) := by omega
      have i1 : (i : Int) < (s.size : Int) := by omega
      obtain ⟨q, hq⟩ : ∃ q : Nat, i + 1 = q := ⟨_, rfl⟩
      have hsum : IntKind.i64.wrap ((i : Int) + 1) = (q : Int) := by rw [IntWalk.i64_in _ (by omega)]; omega
      have q0 : (0 : Int) ≤ (q : Int) := by omega
      have q1 : (q : Int) ≤ (s.size : Int) := by omega
      have HQ := Lib.hid hq; clear hq
      have d0 : wr.cell? ⟨cb, 3, none⟩ = some (.map (some tm)) := by have := HI4.out.blk.cell 3; simpa using this
      go_wp2_with fail
      have hS0 : wr.drew.cell? ⟨cb, 3, none⟩ = some (.map (some tm)) := d0
      refine wp_region_held_drew (S := fun w' => w'.cell? ⟨cb, 3, none⟩ = some (.map (some tm))) (by kernel_rfl) hS0 (fun hHeld => ?_)
      clear hS0
      refine wpAnyH_takeD (i := 0) (d := some 18) (v := ?_) rfl rfl (by kernel_rfl) (by kernel_rfl) (by kernel_rfl) (fun _ _ _ h => h) (Or.inl ⟨by rfl, ?_⟩) (by assumption) ?_
      rotate_left
      · intro w hSw; (try dsimp only at hSw); go_simp; all_goals (with_reducible rfl)
      simp only [Act.put, List.setIfInBounds_toArray, List.set_cons_zero, List.set_cons_succ]
      refine wpAnyH_takeD (i := 1) (d := some 19) (v := ?_) rfl rfl (by kernel_rfl) (by kernel_rfl) (by kernel_rfl) (fun _ _ _ h => h) (Or.inl ⟨by rfl, ?_⟩) (by assumption) ?_
      rotate_left
      · intro w hSw; (try dsimp only at hSw); go_simp; all_goals (with_reducible rfl)
      simp only [Act.put, List.setIfInBounds_toArray, List.set_cons_zero, List.set_cons_succ]
      refine wpAnyH_takeD (i := 2) (d := some 20) (v := ?_) rfl rfl (by kernel_rfl) (by kernel_rfl) (by kernel_rfl) (fun _ _ _ h => h) (Or.inl ⟨by rfl, ?_⟩) (by assumption) ?_
      rotate_left
      · intro w hSw; (try dsimp only at hSw); go_simp; all_goals (with_reducible rfl)
      simp only [Act.put, List.setIfInBounds_toArray, List.set_cons_zero, List.set_cons_succ]
      refine wpAnyH_takeD (i := 3) (d := some 21) (v := ?_) rfl rfl (by kernel_rfl) (by kernel_rfl) (by kernel_rfl) (fun _ _ _ h => h) (Or.inl ⟨by rfl, ?_⟩) (by assumption) ?_
      rotate_left
      · intro w hSw; (try dsimp only at hSw); go_simp; all_goals (with_reducible rfl)
      simp only [Act.put, List.setIfInBounds_toArray, List.set_cons_zero, List.set_cons_succ]
      refine wpAnyH_takeD (i := 4) (d := some 22) (v := ?_) rfl rfl (by kernel_rfl) (by kernel_rfl) (by kernel_rfl) (fun _ _ _ h => h) (Or.inl ⟨by rfl, ?_⟩) (by assumption) ?_
      rotate_left
      · intro w hSw; (try dsimp only at hSw); go_simp; all_goals (with_reducible rfl)
      simp only [Act.put, List.setIfInBounds_toArray, List.set_cons_zero, List.set_cons_succ]
      refine wpAnyH_takeD (i := 5) (d := some 23) (v := ?_) rfl rfl (by kernel_rfl) (by kernel_rfl) (by kernel_rfl) (fun _ _ _ h => h) (Or.inl ⟨by rfl, ?_⟩) (by assumption) ?_
      rotate_left
      · intro w hSw; (try dsimp only at hSw); go_simp; all_goals (with_reducible rfl)
      simp only [Act.put, List.setIfInBounds_toArray, List.set_cons_zero, List.set_cons_succ]
      refine wpAnyH_takeD (i := 6) (d := some 24) (v := ?_) rfl rfl (by kernel_rfl) (by kernel_rfl) (by kernel_rfl) (fun _ _ _ h => h) (Or.inl ⟨by rfl, ?_⟩) (by assumption) ?_
      rotate_left
      · intro w hSw; (try dsimp only at hSw); go_simp; all_goals (with_reducible rfl)
      simp only [Act.put, List.setIfInBounds_toArray, List.set_cons_zero, List.set_cons_succ]
      refine wpAnyH_takeD (i := 7) (d := some 25) (v := ?_) rfl rfl (by kernel_rfl) (by kernel_rfl) (by kernel_rfl) (fun _ _ _ h => h) (Or.inl ⟨by rfl, ?_⟩) (by assumption) ?_
      rotate_left
      · intro w hSw; (try dsimp only at hSw); go_simp; all_goals (with_reducible rfl)
      simp only [Act.put, List.setIfInBounds_toArray, List.set_cons_zero, List.set_cons_succ]
      obtain ⟨n0, D0, hn0, hD0, hT0⟩ := HI4.out.tex
      have hqs : q ≤ s.size := by omega
      have HEX := Lib.hid (extract_take s q hqs)
      have hkey := WideMaps.keyOf_string_mk (P := Tryd.prog) Tryd.underlying9 (s := s.extract 0 q) (hsz _ (by rw [extract_size s q hqs]; omega))
      rw [HEX.out] at hkey
      obtain ⟨x1, hrun0, hx1⟩ := look_text (w := wr.drew) hD0 hT0 (Maps.string_keyed Tryd.underlying9) Tryd.underlying67 Tryd.underlying9 (Tryd.zeroValue9 _) hkey
      have HX1 := Lib.hid hx1; clear hx1
      refine wpAnyH_ready (rs := [8]) (by kernel_rfl) (by simp) ?_
      refine AllReadyH.cons (o := _) rfl (fun K hK => ?_) AllReadyH.nil
      clear hkey
      go_simp
      refine hK.out _ _ hHeld (fun hHeld => ?_)
      clear hK K
      try simp only [Act.put, List.setIfInBounds_toArray, List.set_cons_zero, List.set_cons_succ]
      refine wpAnyH_takeD (i := 9) (d := some 17) (v := ?_) rfl rfl (by kernel_rfl) (by kernel_rfl) (by kernel_rfl) (fun _ _ _ h => h) (Or.inl ⟨by rfl, ?_⟩) (by assumption) ?_
      rotate_left
      · intro w hSw; (try dsimp only at hSw); go_simp; all_goals (with_reducible rfl)
      simp only [Act.put, List.setIfInBounds_toArray, List.set_cons_zero, List.set_cons_succ]
      refine wpAnyH_takeD (i := 10) (d := some 27) (v := ?_) rfl rfl (by kernel_rfl) (by kernel_rfl) (by kernel_rfl) (fun _ _ _ h => h) (Or.inl ⟨by rfl, ?_⟩) (by assumption) ?_
      rotate_left
      · intro w hSw; (try dsimp only at hSw); go_simp; all_goals (with_reducible rfl)
      simp only [Act.put, List.setIfInBounds_toArray, List.set_cons_zero, List.set_cons_succ]
      refine wpAnyH_takeD (i := 11) (d := some 28) (v := ?_) rfl rfl (by kernel_rfl) (by kernel_rfl) (by kernel_rfl) (fun _ _ _ h => h) (Or.inl ⟨by rfl, ?_⟩) (by assumption) ?_
      rotate_left
      · intro w hSw; (try dsimp only at hSw); go_simp; all_goals (with_reducible rfl)
      simp only [Act.put, List.setIfInBounds_toArray, List.set_cons_zero, List.set_cons_succ]
      refine wpAnyH_takeD (i := 12) (d := some 8) (v := ?_) rfl rfl (by kernel_rfl) (by kernel_rfl) (by kernel_rfl) (fun _ _ _ h => h) (Or.inl ⟨by rfl, ?_⟩) (by assumption) ?_
      rotate_left
      · intro w hSw; (try dsimp only at hSw); go_simp; all_goals (with_reducible rfl)
      simp only [Act.put, List.setIfInBounds_toArray, List.set_cons_zero, List.set_cons_succ]
      refine wpAnyH_takeD (i := 13) (d := some 9) (v := ?_) rfl rfl (by kernel_rfl) (by kernel_rfl) (by kernel_rfl) (fun _ _ _ h => h) (Or.inl ⟨by rfl, ?_⟩) (by assumption) ?_
      rotate_left
      · intro w hSw; (try dsimp only at hSw); go_simp; all_goals (with_reducible rfl)
      simp only [Act.put, List.setIfInBounds_toArray, List.set_cons_zero, List.set_cons_succ]
      refine wpAnyH_done (by kernel_rfl) ?_ _
      clear hrun0 hD0 hT0 hn0 d0 hHeld
      have HST := Lib.hid (nextR_step ps s.data.toList i (by rw [← size_toList]; exact hlt))
      cases hl1 : (lookT ps (s.data.toList.take q)).isSome with
      | true =>
        have HFIN := Lib.hid (show ∃ t : Bytes, x1 = ⟨t.toArray⟩ ∧ nextP ps s.data.toList = (q, t, 0) from by
          obtain ⟨t, ht⟩ := Option.isSome_iff_exists.1 hl1
          refine ⟨t, ?_, ?_⟩
          · refine bytes_eq ?_
            rw [HX1.out, ht]; rfl
          · unfold nextP
            rw [HNO.out, HST.out, HQ.out, ht])
        clear hl1
        go_wp2
        go_ret3
        obtain ⟨t, e1, e2⟩ := HFIN.out
        exact ⟨q, t, 0, by rw [e1]; rfl, e2, HB4.out.drew⟩
      | false =>
        have HGO := Lib.hid (show nextR ps [] s.data.toList = nextR ps (s.data.toList.take q) (s.data.toList.drop q) from by
          have hn : lookT ps (s.data.toList.take q) = none := by cases h : lookT ps (s.data.toList.take q) with | none => rfl | some x => rw [h] at hl1; cases hl1
          rw [HNO.out, HST.out, HQ.out, hn])
        clear hl1
        go_wp2
        go_roundw
        case rel => exact ⟨q, by omega, rfl, HI4.out.drew, HB4.out.drew, HGO.out⟩
        case measure => have := HQ.out; simp [intOf]; omega
    · have i1 : ¬ (i : Int) < (s.size : Int) := by omega
      have hic : i = s.size := by omega
      have HNN := Lib.hid (show nextR ps [] s.data.toList = none from by rw [HNO.out, hic, size_toList]; exact nextR_end _ _)
      have d0 : wr.cell? ⟨cb, 4, none⟩ = some (.map (some hm)) := by have := HI4.out.blk.cell 4; simpa using this
      obtain ⟨n0, D0, hn0, hD0, hT0⟩ := HI4.out.hea
      obtain ⟨yb, hrun0, hat0⟩ := look_bool (w := wr) hD0 (Maps.string_keyed Tryd.underlying9) Tryd.underlying68 Tryd.underlying4 (Tryd.zeroValue4 _) HKEYS.out
      have hyb : yb = headB ps s.data.toList := by have := (hT0 s.data.toList).symm.trans hat0; simpa using this.symm
      have HYB := Lib.hid hyb
      clear hat0 hyb hD0 hT0 hn0 hic
      cases yb with
      | true =>
        go_wp2
        go_ret3
        exact ⟨0, [], 18, rfl, by unfold nextP; rw [HNN.out, ← HYB.out]; rfl, HB4.out⟩
      | false =>
        go_wp2
        go_ret3
        exact ⟨0, [], 17, rfl, by unfold nextP; rw [HNN.out, ← HYB.out]; rfl, HB4.out⟩

end Go.Proofs.YtplobpelhcagpaaDoor
