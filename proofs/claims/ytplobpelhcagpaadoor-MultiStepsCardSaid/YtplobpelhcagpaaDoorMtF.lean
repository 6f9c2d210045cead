/-
  Multi: law13's Valid and Plain; law17's Plain.
-/
import Derived.Test.YtplobpelhcagpaaDoorMtE
import Derived.Test.YtplobpelhcagpaaDoorLibT
import Derived.Lib.OthersKept
namespace Go.Proofs.YtplobpelhcagpaaDoor
open Go.RowKit Go.Shelf Pl14

theorem Below.iterAt {B k : Nat} {w w' : World} {s : ByteArray} {pos : Nat} (h : Below B w w') (hk : B ≤ k) : Below B w (w'.iterAt k s pos) :=
  ⟨h.os, h.tape, h.output, by have := h.size; simp [World.iterAt]; exact this, fun j hj => by
    have e : (w'.iterAt k s pos).heap[j]? = w'.heap[j]? := by
      unfold World.iterAt
      simp only
      rw [Array.getElem?_setIfInBounds_ne (by omega)]
    rw [e]; exact h.block j hj⟩

theorem conv_one {w : World} {b : Nat} {r : Int} (h : Blk w b #[.int .i32 r] 21) : (convert 75 9 (.slice (some ⟨b, 0, none⟩) 1 1)).run Tryd.prog w = .ok (.string (Utf8.encode r)) w := by
  have := conv_key (w := w) (v := .slice (some ⟨b, 0, none⟩) 1 1) (xs := [r]) ⟨_, 1, rfl, Nat.le_refl _, by decide, (fun h => by cases h), .inr ⟨b, 0, rfl, fun j hj => by
    have h0 : j = 0 := by simpa using hj
    subst h0
    exact (h.cell (0 + 0)).trans rfl⟩⟩ (by simp)
  rw [this]
  congr 2

set_option maxRecDepth 100000 in
set_option maxHeartbeats 8000000 in
theorem valid13_any (s : ByteArray) (w : World) (hv : Lib.validD s.data.toList = true) (hsz : s.size ≤ 1000000) : Calls Tryd.prog 50 #[.string s] w fun e w' => e = .returned (.bool true) ∧ Below w.heap.size w w' := by
  obtain ⟨kb, hkb⟩ : ∃ q, w.heap.size = q := ⟨_, rfl⟩
  have HK := Lib.hid (show kb ≤ (w.iter s 0).heap.size ∧ (w.iter s 0).heap[kb]? = some (.stringIter s 0) ∧ Below kb w (w.iter s 0) from by
    subst hkb
    exact ⟨by simp [World.iter], World.iter_heap w s 0, by unfold World.iter; exact (Below.refl _ _).alloc (Nat.le_refl _) _⟩)
  have HV := Lib.hid (show ValidAt s 0 from by unfold ValidAt; simpa using hv); clear hv
  rw [hkb]
  go_enter Tryd.func50, Tryd.ntmps50
  go_wp2
  try rw [hkb]
  go_loopw [3] (fun s3 wr => ∃ i : Nat, s3 = .int .i64 i ∧ i ≤ s.size ∧ ValidAt s i ∧ wr.heap[kb]? = some (.stringIter s i) ∧ Below kb w wr) (fun _ wr => s.size - wr.iterPos kb)
  case atStart => exact ⟨0, rfl, Nat.zero_le _, HV.out, HK.out.2.1, HK.out.2.2⟩
  case round =>
    obtain ⟨i, rfl, hi, hva, hit, hB⟩ := hrel
    have HVA := Lib.hid hva; clear hva
    have HIT := Lib.hid hit; clear hit
    have HB := Lib.hid hB; clear hB
    have HP := Lib.hid (show wr.iterPos kb = i from by unfold World.iterPos; rw [HIT.out])
    by_cases hp : i < s.size
    · obtain ⟨h1, h2, h3, h4, h5⟩ := HVA.out.step hp
      obtain ⟨r, hr⟩ : ∃ q, (Utf8.decode s i).1 = q := ⟨_, rfl⟩
      obtain ⟨d, hd⟩ : ∃ q, (Utf8.decode s i).2 = q := ⟨_, rfl⟩
      have hnx := fun ty => Lib.run_next_any_at (P := Tryd.prog) wr kb s i ty HIT.out hp
      rw [hd] at h1 h2 h3 h4 h5
      rw [hr] at h1 h2
      rw [hr, hd] at hnx
      have HIT2 := Lib.hid (Lib.iterAt_heap wr kb s i (i + d) HIT.out)
      have HB2 := Lib.hid (Below.iterAt (s := s) (pos := i + d) HB.out (Nat.le_refl _))
      obtain ⟨W1, hW1⟩ : ∃ W, wr.iterAt kb s (i + d) = W := ⟨_, rfl⟩
      rw [hW1] at hnx HIT2 HB2
      have H5 := Lib.hid h5; clear h5
      have H1 := Lib.hid h1; clear h1
      clear hr hd hW1
      have hcv : Utf8.encode (r : Int) = s.extract i (i + d) := by
        apply bytes_eq
        rw [H1.out]
        simp [ByteArray.data_extract]
      have HCV := Lib.hid hcv; clear hcv H1
      have HW := Lib.hid h2; clear h2
      obtain ⟨q, hq⟩ : ∃ q : Nat, i + d = q := ⟨_, rfl⟩
      have HQ := Lib.hid hq
      obtain ⟨b1, hb1⟩ : ∃ q, W1.heap.size = q := ⟨_, rfl⟩
      obtain ⟨W2, hW2⟩ : ∃ W, W1.drew.alloc (.cells #[.int .i32 r] 21) = W := ⟨_, rfl⟩
      have hBk := Blk.new W1.drew #[.int .i32 r] 21
      rw [hW2] at hBk
      have hB3 : Below kb w W2 := by rw [← hW2]; exact (HB2.out.drewN 1).alloc (by rw [← hkb]; exact HB2.out.size) _
      by_cases c1 : r < 128
      · have hd1 : d = 1 := by rw [HW.out]; unfold widN; rw [if_neg (by omega), if_neg (by omega), if_neg (by omega)]
        subst hd1
        have c1i : ¬ (128 : Int) ≤ (r : Int) := by omega
        have c2i : ¬ (2048 : Int) ≤ (r : Int) := by omega
        have c3i : ¬ (65536 : Int) ≤ (r : Int) := by omega
        have hqs : ¬ s.size < q := by omega
        have hqw : IntKind.i64.wrap ((i : Int) + 1) = (q : Int) := by rw [IntWalk.i64_in _ (by omega)]; omega
        have hiq : i ≤ q := by omega
        have hqs2 : q ≤ s.size := by omega
        clear hq
        go_wp2
        have hS0 : True := trivial
        refine wp_region_E (S := fun _ => True) (E := fun _ => true) (by kernel_rfl) ?_
        obtain ⟨W0, hW0⟩ : ∃ W, W1.drew = W := ⟨_, rfl⟩
        try rw [hW0]
        refine wpAnyE_takeW (i := 0) (d := some 22) (v := ?_) rfl rfl (by kernel_rfl) (by kernel_rfl) (by kernel_rfl) rfl (fun _ _ _ h => h) (Or.inl ⟨by rfl, ?_⟩) ?_
        rotate_left
        · intro w hSw; (try dsimp only at hSw); go_simp; all_goals (with_reducible rfl)
        simp only [Act.put, List.setIfInBounds_toArray, List.set_cons_zero, List.set_cons_succ]
        refine wpAnyE_takeW (i := 1) (d := some 23) (v := ?_) rfl rfl (by kernel_rfl) (by kernel_rfl) (by kernel_rfl) rfl (fun _ _ _ h => h) (Or.inl ⟨by rfl, ?_⟩) ?_
        rotate_left
        · intro w hSw; (try dsimp only at hSw); go_simp; all_goals (with_reducible rfl)
        simp only [Act.put, List.setIfInBounds_toArray, List.set_cons_zero, List.set_cons_succ]
        refine wpAnyE_takeW (i := 2) (d := some 24) (v := ?_) rfl rfl (by kernel_rfl) (by kernel_rfl) (by kernel_rfl) rfl (fun _ _ _ h => h) (Or.inl ⟨by rfl, ?_⟩) ?_
        rotate_left
        · intro w hSw; (try dsimp only at hSw); go_simp; all_goals (with_reducible rfl)
        simp only [Act.put, List.setIfInBounds_toArray, List.set_cons_zero, List.set_cons_succ]
        refine wpAnyE_takeW (i := 3) (d := some 25) (v := ?_) rfl rfl (by kernel_rfl) (by kernel_rfl) (by kernel_rfl) rfl (fun _ _ _ h => h) (Or.inl ⟨by rfl, ?_⟩) ?_
        rotate_left
        · intro w hSw; (try dsimp only at hSw); go_simp; all_goals (with_reducible rfl)
        simp only [Act.put, List.setIfInBounds_toArray, List.set_cons_zero, List.set_cons_succ]
        refine wpAnyE_takeW (i := 4) (d := some 26) (v := ?_) rfl rfl (by kernel_rfl) (by kernel_rfl) (by kernel_rfl) rfl (fun _ _ _ h => h) (Or.inl ⟨by rfl, ?_⟩) ?_
        rotate_left
        · intro w hSw; (try dsimp only at hSw); go_simp; all_goals (with_reducible rfl)
        simp only [Act.put, List.setIfInBounds_toArray, List.set_cons_zero, List.set_cons_succ]
        refine wpAnyE_takeW (i := 5) (d := some 27) (v := .bool false) rfl rfl (by kernel_rfl) (by kernel_rfl) (by kernel_rfl) rfl (fun _ _ _ h => h) (Or.inl ⟨by rfl, ?_⟩) ?_
        · intro w hSw; (try dsimp only at hSw); go_simp; all_goals (with_reducible rfl)
        simp only [Act.put, List.setIfInBounds_toArray, List.set_cons_zero, List.set_cons_succ]
        refine wpAnyE_takeW (i := 6) (d := some 28) (v := .bool false) rfl rfl (by kernel_rfl) (by kernel_rfl) (by kernel_rfl) rfl (fun _ _ _ h => h) (Or.inl ⟨by rfl, ?_⟩) ?_
        · intro w hSw; (try dsimp only at hSw); go_simp; all_goals (with_reducible rfl)
        simp only [Act.put, List.setIfInBounds_toArray, List.set_cons_zero, List.set_cons_succ]
        refine wpAnyE_takeW (i := 7) (d := some 29) (v := ?_) rfl rfl (by kernel_rfl) (by kernel_rfl) (by kernel_rfl) rfl (fun _ _ _ h => h) (Or.inl ⟨by rfl, ?_⟩) ?_
        rotate_left
        · intro w hSw; (try dsimp only at hSw); go_simp; all_goals (with_reducible rfl)
        simp only [Act.put, List.setIfInBounds_toArray, List.set_cons_zero, List.set_cons_succ]
        refine wpAnyE_takeW (i := 10) (d := some 32) (v := ?_) rfl rfl (by kernel_rfl) (by kernel_rfl) (by kernel_rfl) rfl (fun _ _ _ h => h) (Or.inl ⟨by rfl, ?_⟩) ?_
        rotate_left
        · intro w hSw; (try dsimp only at hSw); go_simp; all_goals (with_reducible rfl)
        simp only [Act.put, List.setIfInBounds_toArray, List.set_cons_zero, List.set_cons_succ]
        refine wpAnyE_takeW (i := 11) (d := some 33) (v := ?_) rfl rfl (by kernel_rfl) (by kernel_rfl) (by kernel_rfl) rfl (fun _ _ _ h => h) (Or.inl ⟨by rfl, ?_⟩) ?_
        rotate_left
        · intro w hSw; (try dsimp only at hSw); go_simp; all_goals (with_reducible rfl)
        simp only [Act.put, List.setIfInBounds_toArray, List.set_cons_zero, List.set_cons_succ]
        refine wpAnyE_takeW (i := 12) (d := some 34) (v := ?_) rfl rfl (by kernel_rfl) (by kernel_rfl) (by kernel_rfl) rfl (fun _ _ _ h => h) (Or.inl ⟨by rfl, ?_⟩) ?_
        rotate_left
        · intro w hSw; (try dsimp only at hSw); go_simp; all_goals (with_reducible rfl)
        simp only [Act.put, List.setIfInBounds_toArray, List.set_cons_zero, List.set_cons_succ]
        refine wpAnyE_takeW (i := 13) (d := some 35) (v := ?_) rfl rfl (by kernel_rfl) (by kernel_rfl) (by kernel_rfl) rfl (fun _ _ _ h => h) (Or.inl ⟨by rfl, ?_⟩) ?_
        rotate_left
        · intro w hSw; (try dsimp only at hSw); go_simp; all_goals (with_reducible rfl)
        simp only [Act.put, List.setIfInBounds_toArray, List.set_cons_zero, List.set_cons_succ]
        refine wpAnyE_takeW (i := 14) (d := some 36) (v := ?_) rfl rfl (by kernel_rfl) (by kernel_rfl) (by kernel_rfl) rfl (fun _ _ _ h => h) (Or.inl ⟨by rfl, ?_⟩) ?_
        rotate_left
        · intro w hSw; (try dsimp only at hSw); go_simp; all_goals (with_reducible rfl)
        simp only [Act.put, List.setIfInBounds_toArray, List.set_cons_zero, List.set_cons_succ]
        refine wpAnyE_takeW (i := 15) (d := some 37) (v := ?_) rfl rfl (by kernel_rfl) (by kernel_rfl) (by kernel_rfl) rfl (fun _ _ _ h => h) (Or.inl ⟨by rfl, ?_⟩) ?_
        rotate_left
        · intro w hSw; (try dsimp only at hSw); go_simp; all_goals (with_reducible rfl)
        simp only [Act.put, List.setIfInBounds_toArray, List.set_cons_zero, List.set_cons_succ]
        refine wpAnyE_ready (rs := [8]) (by kernel_rfl) (by simp) ?_
        refine AllE.cons rfl (fun K hK => ?_) AllE.nil
        go_simp
        obtain ⟨V5, hV5, hp5⟩ : ∃ V', W0.alloc (.cells #[.int .i32 r] 21) = V' ∧ Blk V' W0.heap.size #[.int .i32 r] 21 := ⟨_, rfl, Blk.new _ _ _⟩
        obtain ⟨p5, hpe5⟩ : ∃ q, W0.heap.size = q := ⟨_, rfl⟩
        have hB5 : Below kb w V5 := by rw [← hV5, ← hW0]; exact (HB2.out.drewN 1).alloc (by rw [← hkb]; exact HB2.out.size) _
        have hk5 : V5.heap[kb]? = some (.stringIter s q) := by
          rw [← hV5, ← hW0, ← HQ.out]
          have hl : kb < W1.heap.size := (Array.getElem?_eq_some_iff.1 HIT2.out).1
          show (W1.heap.push _)[kb]? = _
          rw [Array.getElem?_push_lt hl, ← Array.getElem?_eq_getElem hl]
          exact HIT2.out
        rw [hpe5] at hp5
        try rw [hV5]
        try rw [hpe5]
        have hcv5 := conv_one hp5
        rw [HCV.out, HQ.out] at hcv5
        refine hK.out _ _ (fun _ => trivial) ?_
        clear hK K
        try simp only [Act.put, List.setIfInBounds_toArray, List.set_cons_zero, List.set_cons_succ]
        refine wpAnyE_ready (rs := [9]) (by kernel_rfl) (by simp) ?_
        refine AllE.cons rfl (fun K hK => ?_) AllE.nil
        go_simp
        refine hK.out _ _ (fun _ => trivial) ?_
        clear hK K
        try simp only [Act.put, List.setIfInBounds_toArray, List.set_cons_zero, List.set_cons_succ]
        refine wpAnyE_takeW (i := 16) (d := some 38) (v := .bool false) rfl rfl (by kernel_rfl) (by kernel_rfl) (by kernel_rfl) rfl (fun _ _ _ h => h) (Or.inl ⟨by rfl, ?_⟩) ?_
        · intro w hSw; (try dsimp only at hSw); go_simp; all_goals (with_reducible rfl)
        simp only [Act.put, List.setIfInBounds_toArray, List.set_cons_zero, List.set_cons_succ]
        refine wpAnyE_takeW (i := 17) (d := some 39) (v := .bool false) rfl rfl (by kernel_rfl) (by kernel_rfl) (by kernel_rfl) rfl (fun _ _ _ h => h) (Or.inl ⟨by rfl, ?_⟩) ?_
        · intro w hSw; (try dsimp only at hSw); go_simp; all_goals (with_reducible rfl)
        simp only [Act.put, List.setIfInBounds_toArray, List.set_cons_zero, List.set_cons_succ]
        refine wpAnyE_done (by kernel_rfl) ?_ _
        have HB5 := Lib.hid hB5
        have HK5 := Lib.hid hk5
        have H5V := Lib.hid (show ValidAt s q from by rw [← HQ.out]; exact H5.out)
        have HP5 := Lib.hid (show V5.iterPos kb = q from by unfold World.iterPos; rw [HK5.out])
        clear hcv5 hB5 hk5 hp5 hV5 hpe5
        go_wp2
        go_roundw
        case rel => exact ⟨q, rfl, hqs2, H5V.out, HK5.out, HB5.out⟩
        case measure => rw [HP5.out, HP.out]; have := HQ.out; omega
      by_cases c2 : r < 2048
      · have hd1 : d = 2 := by rw [HW.out]; unfold widN; rw [if_neg (by omega), if_neg (by omega), if_pos (by omega)]
        subst hd1
        have c1i : (128 : Int) ≤ (r : Int) := by omega
        have c2i : ¬ (2048 : Int) ≤ (r : Int) := by omega
        have c3i : ¬ (65536 : Int) ≤ (r : Int) := by omega
        have hqs : ¬ s.size < q := by omega
        have hqw : IntKind.i64.wrap ((i : Int) + 2) = (q : Int) := by rw [IntWalk.i64_in _ (by omega)]; omega
        have hiq : i ≤ q := by omega
        have hqs2 : q ≤ s.size := by omega
        clear hq
        go_wp2
        have hS0 : True := trivial
        refine wp_region_E (S := fun _ => True) (E := fun _ => true) (by kernel_rfl) ?_
        obtain ⟨W0, hW0⟩ : ∃ W, W1.drew = W := ⟨_, rfl⟩
        try rw [hW0]
        refine wpAnyE_takeW (i := 0) (d := some 22) (v := ?_) rfl rfl (by kernel_rfl) (by kernel_rfl) (by kernel_rfl) rfl (fun _ _ _ h => h) (Or.inl ⟨by rfl, ?_⟩) ?_
        rotate_left
        · intro w hSw; (try dsimp only at hSw); go_simp; all_goals (with_reducible rfl)
        simp only [Act.put, List.setIfInBounds_toArray, List.set_cons_zero, List.set_cons_succ]
        refine wpAnyE_takeW (i := 1) (d := some 23) (v := ?_) rfl rfl (by kernel_rfl) (by kernel_rfl) (by kernel_rfl) rfl (fun _ _ _ h => h) (Or.inl ⟨by rfl, ?_⟩) ?_
        rotate_left
        · intro w hSw; (try dsimp only at hSw); go_simp; all_goals (with_reducible rfl)
        simp only [Act.put, List.setIfInBounds_toArray, List.set_cons_zero, List.set_cons_succ]
        refine wpAnyE_takeW (i := 2) (d := some 24) (v := ?_) rfl rfl (by kernel_rfl) (by kernel_rfl) (by kernel_rfl) rfl (fun _ _ _ h => h) (Or.inl ⟨by rfl, ?_⟩) ?_
        rotate_left
        · intro w hSw; (try dsimp only at hSw); go_simp; all_goals (with_reducible rfl)
        simp only [Act.put, List.setIfInBounds_toArray, List.set_cons_zero, List.set_cons_succ]
        refine wpAnyE_takeW (i := 3) (d := some 25) (v := ?_) rfl rfl (by kernel_rfl) (by kernel_rfl) (by kernel_rfl) rfl (fun _ _ _ h => h) (Or.inl ⟨by rfl, ?_⟩) ?_
        rotate_left
        · intro w hSw; (try dsimp only at hSw); go_simp; all_goals (with_reducible rfl)
        simp only [Act.put, List.setIfInBounds_toArray, List.set_cons_zero, List.set_cons_succ]
        refine wpAnyE_takeW (i := 4) (d := some 26) (v := ?_) rfl rfl (by kernel_rfl) (by kernel_rfl) (by kernel_rfl) rfl (fun _ _ _ h => h) (Or.inl ⟨by rfl, ?_⟩) ?_
        rotate_left
        · intro w hSw; (try dsimp only at hSw); go_simp; all_goals (with_reducible rfl)
        simp only [Act.put, List.setIfInBounds_toArray, List.set_cons_zero, List.set_cons_succ]
        refine wpAnyE_takeW (i := 5) (d := some 27) (v := .bool false) rfl rfl (by kernel_rfl) (by kernel_rfl) (by kernel_rfl) rfl (fun _ _ _ h => h) (Or.inl ⟨by rfl, ?_⟩) ?_
        · intro w hSw; (try dsimp only at hSw); go_simp; all_goals (with_reducible rfl)
        simp only [Act.put, List.setIfInBounds_toArray, List.set_cons_zero, List.set_cons_succ]
        refine wpAnyE_takeW (i := 6) (d := some 28) (v := .bool false) rfl rfl (by kernel_rfl) (by kernel_rfl) (by kernel_rfl) rfl (fun _ _ _ h => h) (Or.inl ⟨by rfl, ?_⟩) ?_
        · intro w hSw; (try dsimp only at hSw); go_simp; all_goals (with_reducible rfl)
        simp only [Act.put, List.setIfInBounds_toArray, List.set_cons_zero, List.set_cons_succ]
        refine wpAnyE_takeW (i := 7) (d := some 29) (v := ?_) rfl rfl (by kernel_rfl) (by kernel_rfl) (by kernel_rfl) rfl (fun _ _ _ h => h) (Or.inl ⟨by rfl, ?_⟩) ?_
        rotate_left
        · intro w hSw; (try dsimp only at hSw); go_simp; all_goals (with_reducible rfl)
        simp only [Act.put, List.setIfInBounds_toArray, List.set_cons_zero, List.set_cons_succ]
        refine wpAnyE_takeW (i := 10) (d := some 32) (v := ?_) rfl rfl (by kernel_rfl) (by kernel_rfl) (by kernel_rfl) rfl (fun _ _ _ h => h) (Or.inl ⟨by rfl, ?_⟩) ?_
        rotate_left
        · intro w hSw; (try dsimp only at hSw); go_simp; all_goals (with_reducible rfl)
        simp only [Act.put, List.setIfInBounds_toArray, List.set_cons_zero, List.set_cons_succ]
        refine wpAnyE_takeW (i := 11) (d := some 33) (v := ?_) rfl rfl (by kernel_rfl) (by kernel_rfl) (by kernel_rfl) rfl (fun _ _ _ h => h) (Or.inl ⟨by rfl, ?_⟩) ?_
        rotate_left
        · intro w hSw; (try dsimp only at hSw); go_simp; all_goals (with_reducible rfl)
        simp only [Act.put, List.setIfInBounds_toArray, List.set_cons_zero, List.set_cons_succ]
        refine wpAnyE_takeW (i := 12) (d := some 34) (v := ?_) rfl rfl (by kernel_rfl) (by kernel_rfl) (by kernel_rfl) rfl (fun _ _ _ h => h) (Or.inl ⟨by rfl, ?_⟩) ?_
        rotate_left
        · intro w hSw; (try dsimp only at hSw); go_simp; all_goals (with_reducible rfl)
        simp only [Act.put, List.setIfInBounds_toArray, List.set_cons_zero, List.set_cons_succ]
        refine wpAnyE_takeW (i := 13) (d := some 35) (v := ?_) rfl rfl (by kernel_rfl) (by kernel_rfl) (by kernel_rfl) rfl (fun _ _ _ h => h) (Or.inl ⟨by rfl, ?_⟩) ?_
        rotate_left
        · intro w hSw; (try dsimp only at hSw); go_simp; all_goals (with_reducible rfl)
        simp only [Act.put, List.setIfInBounds_toArray, List.set_cons_zero, List.set_cons_succ]
        refine wpAnyE_takeW (i := 14) (d := some 36) (v := ?_) rfl rfl (by kernel_rfl) (by kernel_rfl) (by kernel_rfl) rfl (fun _ _ _ h => h) (Or.inl ⟨by rfl, ?_⟩) ?_
        rotate_left
        · intro w hSw; (try dsimp only at hSw); go_simp; all_goals (with_reducible rfl)
        simp only [Act.put, List.setIfInBounds_toArray, List.set_cons_zero, List.set_cons_succ]
        refine wpAnyE_takeW (i := 15) (d := some 37) (v := ?_) rfl rfl (by kernel_rfl) (by kernel_rfl) (by kernel_rfl) rfl (fun _ _ _ h => h) (Or.inl ⟨by rfl, ?_⟩) ?_
        rotate_left
        · intro w hSw; (try dsimp only at hSw); go_simp; all_goals (with_reducible rfl)
        simp only [Act.put, List.setIfInBounds_toArray, List.set_cons_zero, List.set_cons_succ]
        refine wpAnyE_ready (rs := [8]) (by kernel_rfl) (by simp) ?_
        refine AllE.cons rfl (fun K hK => ?_) AllE.nil
        go_simp
        obtain ⟨V5, hV5, hp5⟩ : ∃ V', W0.alloc (.cells #[.int .i32 r] 21) = V' ∧ Blk V' W0.heap.size #[.int .i32 r] 21 := ⟨_, rfl, Blk.new _ _ _⟩
        obtain ⟨p5, hpe5⟩ : ∃ q, W0.heap.size = q := ⟨_, rfl⟩
        have hB5 : Below kb w V5 := by rw [← hV5, ← hW0]; exact (HB2.out.drewN 1).alloc (by rw [← hkb]; exact HB2.out.size) _
        have hk5 : V5.heap[kb]? = some (.stringIter s q) := by
          rw [← hV5, ← hW0, ← HQ.out]
          have hl : kb < W1.heap.size := (Array.getElem?_eq_some_iff.1 HIT2.out).1
          show (W1.heap.push _)[kb]? = _
          rw [Array.getElem?_push_lt hl, ← Array.getElem?_eq_getElem hl]
          exact HIT2.out
        rw [hpe5] at hp5
        try rw [hV5]
        try rw [hpe5]
        have hcv5 := conv_one hp5
        rw [HCV.out, HQ.out] at hcv5
        refine hK.out _ _ (fun _ => trivial) ?_
        clear hK K
        try simp only [Act.put, List.setIfInBounds_toArray, List.set_cons_zero, List.set_cons_succ]
        refine wpAnyE_ready (rs := [9]) (by kernel_rfl) (by simp) ?_
        refine AllE.cons rfl (fun K hK => ?_) AllE.nil
        go_simp
        refine hK.out _ _ (fun _ => trivial) ?_
        clear hK K
        try simp only [Act.put, List.setIfInBounds_toArray, List.set_cons_zero, List.set_cons_succ]
        refine wpAnyE_takeW (i := 16) (d := some 38) (v := .bool false) rfl rfl (by kernel_rfl) (by kernel_rfl) (by kernel_rfl) rfl (fun _ _ _ h => h) (Or.inl ⟨by rfl, ?_⟩) ?_
        · intro w hSw; (try dsimp only at hSw); go_simp; all_goals (with_reducible rfl)
        simp only [Act.put, List.setIfInBounds_toArray, List.set_cons_zero, List.set_cons_succ]
        refine wpAnyE_takeW (i := 17) (d := some 39) (v := .bool false) rfl rfl (by kernel_rfl) (by kernel_rfl) (by kernel_rfl) rfl (fun _ _ _ h => h) (Or.inl ⟨by rfl, ?_⟩) ?_
        · intro w hSw; (try dsimp only at hSw); go_simp; all_goals (with_reducible rfl)
        simp only [Act.put, List.setIfInBounds_toArray, List.set_cons_zero, List.set_cons_succ]
        refine wpAnyE_done (by kernel_rfl) ?_ _
        have HB5 := Lib.hid hB5
        have HK5 := Lib.hid hk5
        have H5V := Lib.hid (show ValidAt s q from by rw [← HQ.out]; exact H5.out)
        have HP5 := Lib.hid (show V5.iterPos kb = q from by unfold World.iterPos; rw [HK5.out])
        clear hcv5 hB5 hk5 hp5 hV5 hpe5
        go_wp2
        go_roundw
        case rel => exact ⟨q, rfl, hqs2, H5V.out, HK5.out, HB5.out⟩
        case measure => rw [HP5.out, HP.out]; have := HQ.out; omega
      by_cases c3 : r < 65536
      · have hd1 : d = 3 := by rw [HW.out]; unfold widN; rw [if_neg (by omega), if_pos (by omega)]
        subst hd1
        have c1i : (128 : Int) ≤ (r : Int) := by omega
        have c2i : (2048 : Int) ≤ (r : Int) := by omega
        have c3i : ¬ (65536 : Int) ≤ (r : Int) := by omega
        have hqs : ¬ s.size < q := by omega
        have hqw : IntKind.i64.wrap ((i : Int) + 3) = (q : Int) := by rw [IntWalk.i64_in _ (by omega)]; omega
        have hiq : i ≤ q := by omega
        have hqs2 : q ≤ s.size := by omega
        clear hq
        go_wp2
        have hS0 : True := trivial
        refine wp_region_E (S := fun _ => True) (E := fun _ => true) (by kernel_rfl) ?_
        obtain ⟨W0, hW0⟩ : ∃ W, W1.drew = W := ⟨_, rfl⟩
        try rw [hW0]
        refine wpAnyE_takeW (i := 0) (d := some 22) (v := ?_) rfl rfl (by kernel_rfl) (by kernel_rfl) (by kernel_rfl) rfl (fun _ _ _ h => h) (Or.inl ⟨by rfl, ?_⟩) ?_
        rotate_left
        · intro w hSw; (try dsimp only at hSw); go_simp; all_goals (with_reducible rfl)
        simp only [Act.put, List.setIfInBounds_toArray, List.set_cons_zero, List.set_cons_succ]
        refine wpAnyE_takeW (i := 1) (d := some 23) (v := ?_) rfl rfl (by kernel_rfl) (by kernel_rfl) (by kernel_rfl) rfl (fun _ _ _ h => h) (Or.inl ⟨by rfl, ?_⟩) ?_
        rotate_left
        · intro w hSw; (try dsimp only at hSw); go_simp; all_goals (with_reducible rfl)
        simp only [Act.put, List.setIfInBounds_toArray, List.set_cons_zero, List.set_cons_succ]
        refine wpAnyE_takeW (i := 2) (d := some 24) (v := ?_) rfl rfl (by kernel_rfl) (by kernel_rfl) (by kernel_rfl) rfl (fun _ _ _ h => h) (Or.inl ⟨by rfl, ?_⟩) ?_
        rotate_left
        · intro w hSw; (try dsimp only at hSw); go_simp; all_goals (with_reducible rfl)
        simp only [Act.put, List.setIfInBounds_toArray, List.set_cons_zero, List.set_cons_succ]
        refine wpAnyE_takeW (i := 3) (d := some 25) (v := ?_) rfl rfl (by kernel_rfl) (by kernel_rfl) (by kernel_rfl) rfl (fun _ _ _ h => h) (Or.inl ⟨by rfl, ?_⟩) ?_
        rotate_left
        · intro w hSw; (try dsimp only at hSw); go_simp; all_goals (with_reducible rfl)
        simp only [Act.put, List.setIfInBounds_toArray, List.set_cons_zero, List.set_cons_succ]
        refine wpAnyE_takeW (i := 4) (d := some 26) (v := ?_) rfl rfl (by kernel_rfl) (by kernel_rfl) (by kernel_rfl) rfl (fun _ _ _ h => h) (Or.inl ⟨by rfl, ?_⟩) ?_
        rotate_left
        · intro w hSw; (try dsimp only at hSw); go_simp; all_goals (with_reducible rfl)
        simp only [Act.put, List.setIfInBounds_toArray, List.set_cons_zero, List.set_cons_succ]
        refine wpAnyE_takeW (i := 5) (d := some 27) (v := .bool false) rfl rfl (by kernel_rfl) (by kernel_rfl) (by kernel_rfl) rfl (fun _ _ _ h => h) (Or.inl ⟨by rfl, ?_⟩) ?_
        · intro w hSw; (try dsimp only at hSw); go_simp; all_goals (with_reducible rfl)
        simp only [Act.put, List.setIfInBounds_toArray, List.set_cons_zero, List.set_cons_succ]
        refine wpAnyE_takeW (i := 6) (d := some 28) (v := .bool false) rfl rfl (by kernel_rfl) (by kernel_rfl) (by kernel_rfl) rfl (fun _ _ _ h => h) (Or.inl ⟨by rfl, ?_⟩) ?_
        · intro w hSw; (try dsimp only at hSw); go_simp; all_goals (with_reducible rfl)
        simp only [Act.put, List.setIfInBounds_toArray, List.set_cons_zero, List.set_cons_succ]
        refine wpAnyE_takeW (i := 7) (d := some 29) (v := ?_) rfl rfl (by kernel_rfl) (by kernel_rfl) (by kernel_rfl) rfl (fun _ _ _ h => h) (Or.inl ⟨by rfl, ?_⟩) ?_
        rotate_left
        · intro w hSw; (try dsimp only at hSw); go_simp; all_goals (with_reducible rfl)
        simp only [Act.put, List.setIfInBounds_toArray, List.set_cons_zero, List.set_cons_succ]
        refine wpAnyE_takeW (i := 10) (d := some 32) (v := ?_) rfl rfl (by kernel_rfl) (by kernel_rfl) (by kernel_rfl) rfl (fun _ _ _ h => h) (Or.inl ⟨by rfl, ?_⟩) ?_
        rotate_left
        · intro w hSw; (try dsimp only at hSw); go_simp; all_goals (with_reducible rfl)
        simp only [Act.put, List.setIfInBounds_toArray, List.set_cons_zero, List.set_cons_succ]
        refine wpAnyE_takeW (i := 11) (d := some 33) (v := ?_) rfl rfl (by kernel_rfl) (by kernel_rfl) (by kernel_rfl) rfl (fun _ _ _ h => h) (Or.inl ⟨by rfl, ?_⟩) ?_
        rotate_left
        · intro w hSw; (try dsimp only at hSw); go_simp; all_goals (with_reducible rfl)
        simp only [Act.put, List.setIfInBounds_toArray, List.set_cons_zero, List.set_cons_succ]
        refine wpAnyE_takeW (i := 12) (d := some 34) (v := ?_) rfl rfl (by kernel_rfl) (by kernel_rfl) (by kernel_rfl) rfl (fun _ _ _ h => h) (Or.inl ⟨by rfl, ?_⟩) ?_
        rotate_left
        · intro w hSw; (try dsimp only at hSw); go_simp; all_goals (with_reducible rfl)
        simp only [Act.put, List.setIfInBounds_toArray, List.set_cons_zero, List.set_cons_succ]
        refine wpAnyE_takeW (i := 13) (d := some 35) (v := ?_) rfl rfl (by kernel_rfl) (by kernel_rfl) (by kernel_rfl) rfl (fun _ _ _ h => h) (Or.inl ⟨by rfl, ?_⟩) ?_
        rotate_left
        · intro w hSw; (try dsimp only at hSw); go_simp; all_goals (with_reducible rfl)
        simp only [Act.put, List.setIfInBounds_toArray, List.set_cons_zero, List.set_cons_succ]
        refine wpAnyE_takeW (i := 14) (d := some 36) (v := ?_) rfl rfl (by kernel_rfl) (by kernel_rfl) (by kernel_rfl) rfl (fun _ _ _ h => h) (Or.inl ⟨by rfl, ?_⟩) ?_
        rotate_left
        · intro w hSw; (try dsimp only at hSw); go_simp; all_goals (with_reducible rfl)
        simp only [Act.put, List.setIfInBounds_toArray, List.set_cons_zero, List.set_cons_succ]
        refine wpAnyE_takeW (i := 15) (d := some 37) (v := ?_) rfl rfl (by kernel_rfl) (by kernel_rfl) (by kernel_rfl) rfl (fun _ _ _ h => h) (Or.inl ⟨by rfl, ?_⟩) ?_
        rotate_left
        · intro w hSw; (try dsimp only at hSw); go_simp; all_goals (with_reducible rfl)
        simp only [Act.put, List.setIfInBounds_toArray, List.set_cons_zero, List.set_cons_succ]
        refine wpAnyE_ready (rs := [8]) (by kernel_rfl) (by simp) ?_
        refine AllE.cons rfl (fun K hK => ?_) AllE.nil
        go_simp
        obtain ⟨V5, hV5, hp5⟩ : ∃ V', W0.alloc (.cells #[.int .i32 r] 21) = V' ∧ Blk V' W0.heap.size #[.int .i32 r] 21 := ⟨_, rfl, Blk.new _ _ _⟩
        obtain ⟨p5, hpe5⟩ : ∃ q, W0.heap.size = q := ⟨_, rfl⟩
        have hB5 : Below kb w V5 := by rw [← hV5, ← hW0]; exact (HB2.out.drewN 1).alloc (by rw [← hkb]; exact HB2.out.size) _
        have hk5 : V5.heap[kb]? = some (.stringIter s q) := by
          rw [← hV5, ← hW0, ← HQ.out]
          have hl : kb < W1.heap.size := (Array.getElem?_eq_some_iff.1 HIT2.out).1
          show (W1.heap.push _)[kb]? = _
          rw [Array.getElem?_push_lt hl, ← Array.getElem?_eq_getElem hl]
          exact HIT2.out
        rw [hpe5] at hp5
        try rw [hV5]
        try rw [hpe5]
        have hcv5 := conv_one hp5
        rw [HCV.out, HQ.out] at hcv5
        refine hK.out _ _ (fun _ => trivial) ?_
        clear hK K
        try simp only [Act.put, List.setIfInBounds_toArray, List.set_cons_zero, List.set_cons_succ]
        refine wpAnyE_ready (rs := [9]) (by kernel_rfl) (by simp) ?_
        refine AllE.cons rfl (fun K hK => ?_) AllE.nil
        go_simp
        refine hK.out _ _ (fun _ => trivial) ?_
        clear hK K
        try simp only [Act.put, List.setIfInBounds_toArray, List.set_cons_zero, List.set_cons_succ]
        refine wpAnyE_takeW (i := 16) (d := some 38) (v := .bool false) rfl rfl (by kernel_rfl) (by kernel_rfl) (by kernel_rfl) rfl (fun _ _ _ h => h) (Or.inl ⟨by rfl, ?_⟩) ?_
        · intro w hSw; (try dsimp only at hSw); go_simp; all_goals (with_reducible rfl)
        simp only [Act.put, List.setIfInBounds_toArray, List.set_cons_zero, List.set_cons_succ]
        refine wpAnyE_takeW (i := 17) (d := some 39) (v := .bool false) rfl rfl (by kernel_rfl) (by kernel_rfl) (by kernel_rfl) rfl (fun _ _ _ h => h) (Or.inl ⟨by rfl, ?_⟩) ?_
        · intro w hSw; (try dsimp only at hSw); go_simp; all_goals (with_reducible rfl)
        simp only [Act.put, List.setIfInBounds_toArray, List.set_cons_zero, List.set_cons_succ]
        refine wpAnyE_done (by kernel_rfl) ?_ _
        have HB5 := Lib.hid hB5
        have HK5 := Lib.hid hk5
        have H5V := Lib.hid (show ValidAt s q from by rw [← HQ.out]; exact H5.out)
        have HP5 := Lib.hid (show V5.iterPos kb = q from by unfold World.iterPos; rw [HK5.out])
        clear hcv5 hB5 hk5 hp5 hV5 hpe5
        go_wp2
        go_roundw
        case rel => exact ⟨q, rfl, hqs2, H5V.out, HK5.out, HB5.out⟩
        case measure => rw [HP5.out, HP.out]; have := HQ.out; omega
      have hd1 : d = 4 := by rw [HW.out]; unfold widN; rw [if_pos (by omega)]
      subst hd1
      have c1i : (128 : Int) ≤ (r : Int) := by omega
      have c2i : (2048 : Int) ≤ (r : Int) := by omega
      have c3i : (65536 : Int) ≤ (r : Int) := by omega
      have hqs : ¬ s.size < q := by omega
      have hqw : IntKind.i64.wrap ((i : Int) + 4) = (q : Int) := by rw [IntWalk.i64_in _ (by omega)]; omega
      have hiq : i ≤ q := by omega
      have hqs2 : q ≤ s.size := by omega
      clear hq
      go_wp2
      have hS0 : True := trivial
      refine wp_region_E (S := fun _ => True) (E := fun _ => true) (by kernel_rfl) ?_
      obtain ⟨W0, hW0⟩ : ∃ W, W1.drew = W := ⟨_, rfl⟩
      try rw [hW0]
      refine wpAnyE_takeW (i := 0) (d := some 22) (v := ?_) rfl rfl (by kernel_rfl) (by kernel_rfl) (by kernel_rfl) rfl (fun _ _ _ h => h) (Or.inl ⟨by rfl, ?_⟩) ?_
      rotate_left
      · intro w hSw; (try dsimp only at hSw); go_simp; all_goals (with_reducible rfl)
      simp only [Act.put, List.setIfInBounds_toArray, List.set_cons_zero, List.set_cons_succ]
      refine wpAnyE_takeW (i := 1) (d := some 23) (v := ?_) rfl rfl (by kernel_rfl) (by kernel_rfl) (by kernel_rfl) rfl (fun _ _ _ h => h) (Or.inl ⟨by rfl, ?_⟩) ?_
      rotate_left
      · intro w hSw; (try dsimp only at hSw); go_simp; all_goals (with_reducible rfl)
      simp only [Act.put, List.setIfInBounds_toArray, List.set_cons_zero, List.set_cons_succ]
      refine wpAnyE_takeW (i := 2) (d := some 24) (v := ?_) rfl rfl (by kernel_rfl) (by kernel_rfl) (by kernel_rfl) rfl (fun _ _ _ h => h) (Or.inl ⟨by rfl, ?_⟩) ?_
      rotate_left
      · intro w hSw; (try dsimp only at hSw); go_simp; all_goals (with_reducible rfl)
      simp only [Act.put, List.setIfInBounds_toArray, List.set_cons_zero, List.set_cons_succ]
      refine wpAnyE_takeW (i := 3) (d := some 25) (v := ?_) rfl rfl (by kernel_rfl) (by kernel_rfl) (by kernel_rfl) rfl (fun _ _ _ h => h) (Or.inl ⟨by rfl, ?_⟩) ?_
      rotate_left
      · intro w hSw; (try dsimp only at hSw); go_simp; all_goals (with_reducible rfl)
      simp only [Act.put, List.setIfInBounds_toArray, List.set_cons_zero, List.set_cons_succ]
      refine wpAnyE_takeW (i := 4) (d := some 26) (v := ?_) rfl rfl (by kernel_rfl) (by kernel_rfl) (by kernel_rfl) rfl (fun _ _ _ h => h) (Or.inl ⟨by rfl, ?_⟩) ?_
      rotate_left
      · intro w hSw; (try dsimp only at hSw); go_simp; all_goals (with_reducible rfl)
      simp only [Act.put, List.setIfInBounds_toArray, List.set_cons_zero, List.set_cons_succ]
      refine wpAnyE_takeW (i := 5) (d := some 27) (v := .bool false) rfl rfl (by kernel_rfl) (by kernel_rfl) (by kernel_rfl) rfl (fun _ _ _ h => h) (Or.inl ⟨by rfl, ?_⟩) ?_
      · intro w hSw; (try dsimp only at hSw); go_simp; all_goals (with_reducible rfl)
      simp only [Act.put, List.setIfInBounds_toArray, List.set_cons_zero, List.set_cons_succ]
      refine wpAnyE_takeW (i := 6) (d := some 28) (v := .bool false) rfl rfl (by kernel_rfl) (by kernel_rfl) (by kernel_rfl) rfl (fun _ _ _ h => h) (Or.inl ⟨by rfl, ?_⟩) ?_
      · intro w hSw; (try dsimp only at hSw); go_simp; all_goals (with_reducible rfl)
      simp only [Act.put, List.setIfInBounds_toArray, List.set_cons_zero, List.set_cons_succ]
      refine wpAnyE_takeW (i := 7) (d := some 29) (v := ?_) rfl rfl (by kernel_rfl) (by kernel_rfl) (by kernel_rfl) rfl (fun _ _ _ h => h) (Or.inl ⟨by rfl, ?_⟩) ?_
      rotate_left
      · intro w hSw; (try dsimp only at hSw); go_simp; all_goals (with_reducible rfl)
      simp only [Act.put, List.setIfInBounds_toArray, List.set_cons_zero, List.set_cons_succ]
      refine wpAnyE_takeW (i := 10) (d := some 32) (v := ?_) rfl rfl (by kernel_rfl) (by kernel_rfl) (by kernel_rfl) rfl (fun _ _ _ h => h) (Or.inl ⟨by rfl, ?_⟩) ?_
      rotate_left
      · intro w hSw; (try dsimp only at hSw); go_simp; all_goals (with_reducible rfl)
      simp only [Act.put, List.setIfInBounds_toArray, List.set_cons_zero, List.set_cons_succ]
      refine wpAnyE_takeW (i := 11) (d := some 33) (v := ?_) rfl rfl (by kernel_rfl) (by kernel_rfl) (by kernel_rfl) rfl (fun _ _ _ h => h) (Or.inl ⟨by rfl, ?_⟩) ?_
      rotate_left
      · intro w hSw; (try dsimp only at hSw); go_simp; all_goals (with_reducible rfl)
      simp only [Act.put, List.setIfInBounds_toArray, List.set_cons_zero, List.set_cons_succ]
      refine wpAnyE_takeW (i := 12) (d := some 34) (v := ?_) rfl rfl (by kernel_rfl) (by kernel_rfl) (by kernel_rfl) rfl (fun _ _ _ h => h) (Or.inl ⟨by rfl, ?_⟩) ?_
      rotate_left
      · intro w hSw; (try dsimp only at hSw); go_simp; all_goals (with_reducible rfl)
      simp only [Act.put, List.setIfInBounds_toArray, List.set_cons_zero, List.set_cons_succ]
      refine wpAnyE_takeW (i := 13) (d := some 35) (v := ?_) rfl rfl (by kernel_rfl) (by kernel_rfl) (by kernel_rfl) rfl (fun _ _ _ h => h) (Or.inl ⟨by rfl, ?_⟩) ?_
      rotate_left
      · intro w hSw; (try dsimp only at hSw); go_simp; all_goals (with_reducible rfl)
      simp only [Act.put, List.setIfInBounds_toArray, List.set_cons_zero, List.set_cons_succ]
      refine wpAnyE_takeW (i := 14) (d := some 36) (v := ?_) rfl rfl (by kernel_rfl) (by kernel_rfl) (by kernel_rfl) rfl (fun _ _ _ h => h) (Or.inl ⟨by rfl, ?_⟩) ?_
      rotate_left
      · intro w hSw; (try dsimp only at hSw); go_simp; all_goals (with_reducible rfl)
      simp only [Act.put, List.setIfInBounds_toArray, List.set_cons_zero, List.set_cons_succ]
      refine wpAnyE_takeW (i := 15) (d := some 37) (v := ?_) rfl rfl (by kernel_rfl) (by kernel_rfl) (by kernel_rfl) rfl (fun _ _ _ h => h) (Or.inl ⟨by rfl, ?_⟩) ?_
      rotate_left
      · intro w hSw; (try dsimp only at hSw); go_simp; all_goals (with_reducible rfl)
      simp only [Act.put, List.setIfInBounds_toArray, List.set_cons_zero, List.set_cons_succ]
      refine wpAnyE_ready (rs := [8]) (by kernel_rfl) (by simp) ?_
      refine AllE.cons rfl (fun K hK => ?_) AllE.nil
      go_simp
      obtain ⟨V5, hV5, hp5⟩ : ∃ V', W0.alloc (.cells #[.int .i32 r] 21) = V' ∧ Blk V' W0.heap.size #[.int .i32 r] 21 := ⟨_, rfl, Blk.new _ _ _⟩
      obtain ⟨p5, hpe5⟩ : ∃ q, W0.heap.size = q := ⟨_, rfl⟩
      have hB5 : Below kb w V5 := by rw [← hV5, ← hW0]; exact (HB2.out.drewN 1).alloc (by rw [← hkb]; exact HB2.out.size) _
      have hk5 : V5.heap[kb]? = some (.stringIter s q) := by
        rw [← hV5, ← hW0, ← HQ.out]
        have hl : kb < W1.heap.size := (Array.getElem?_eq_some_iff.1 HIT2.out).1
        show (W1.heap.push _)[kb]? = _
        rw [Array.getElem?_push_lt hl, ← Array.getElem?_eq_getElem hl]
        exact HIT2.out
      rw [hpe5] at hp5
      try rw [hV5]
      try rw [hpe5]
      have hcv5 := conv_one hp5
      rw [HCV.out, HQ.out] at hcv5
      refine hK.out _ _ (fun _ => trivial) ?_
      clear hK K
      try simp only [Act.put, List.setIfInBounds_toArray, List.set_cons_zero, List.set_cons_succ]
      refine wpAnyE_ready (rs := [9]) (by kernel_rfl) (by simp) ?_
      refine AllE.cons rfl (fun K hK => ?_) AllE.nil
      go_simp
      refine hK.out _ _ (fun _ => trivial) ?_
      clear hK K
      try simp only [Act.put, List.setIfInBounds_toArray, List.set_cons_zero, List.set_cons_succ]
      refine wpAnyE_takeW (i := 16) (d := some 38) (v := .bool false) rfl rfl (by kernel_rfl) (by kernel_rfl) (by kernel_rfl) rfl (fun _ _ _ h => h) (Or.inl ⟨by rfl, ?_⟩) ?_
      · intro w hSw; (try dsimp only at hSw); go_simp; all_goals (with_reducible rfl)
      simp only [Act.put, List.setIfInBounds_toArray, List.set_cons_zero, List.set_cons_succ]
      refine wpAnyE_takeW (i := 17) (d := some 39) (v := .bool false) rfl rfl (by kernel_rfl) (by kernel_rfl) (by kernel_rfl) rfl (fun _ _ _ h => h) (Or.inl ⟨by rfl, ?_⟩) ?_
      · intro w hSw; (try dsimp only at hSw); go_simp; all_goals (with_reducible rfl)
      simp only [Act.put, List.setIfInBounds_toArray, List.set_cons_zero, List.set_cons_succ]
      refine wpAnyE_done (by kernel_rfl) ?_ _
      have HB5 := Lib.hid hB5
      have HK5 := Lib.hid hk5
      have H5V := Lib.hid (show ValidAt s q from by rw [← HQ.out]; exact H5.out)
      have HP5 := Lib.hid (show V5.iterPos kb = q from by unfold World.iterPos; rw [HK5.out])
      clear hcv5 hB5 hk5 hp5 hV5 hpe5
      go_wp2
      go_roundw
      case rel => exact ⟨q, rfl, hqs2, H5V.out, HK5.out, HB5.out⟩
      case measure => rw [HP5.out, HP.out]; have := HQ.out; omega
    · have HE := Lib.hid (show i = s.size from by omega)
      have hnx := fun ty => Lib.run_next_end_at (P := Tryd.prog) wr kb s i ty HIT.out hp
      have hn : (i : Int) = (s.size : Int) := by omega
      have hd : ((i : Int) == (s.size : Int)) = true := by simp [hn]
      clear hp
      go_wp2
      go_ret
      exact ⟨ret_bool (by simp [HE.out]), HB.out⟩

