/-
  Layer 6 (trie): the library's Clone of a table's map; Copy; the document's answer's Copy.
-/
import Derived.Test.YtkpkcimghkmkfaaTrV
import Derived.Shelf.SlMaps.Clone
namespace Go.Proofs.Ytkpkcimghkmkfaa
open Go.RowKit Go.Shelf

set_option maxRecDepth 100000 in
set_option maxHeartbeats 2000000 in
theorem clone_any (m : Nat) (es : Array MapEntry) (clock : Nat) (w : World) (hb : w.heap[m]? = some (.map es clock)) :
    Calls Try.prog 31 #[.map (some m)] w fun e w' => e = .returned (.map (some w.heap.size)) ∧ w' = w.alloc (.map es clock) := by
  have tm := Try.underlying56
  have hq := fun w => run_eql_map_nil_sl (P := Try.prog) w 56 _ _ (some m) tm
  go_enter Try.func31, Try.ntmps31
  go_wp2
  rw [run_callFunc_extern Try.func41 (by kernel_rfl) (by kernel_rfl) (by kernel_rfl) (e := Extern.MapsClone.clone) (by kernel_rfl), run_maps_clone_sl w 56 hb]
  simp only [Result.andThen]
  rw [Oper.upon_value]
  go_wp2
  rw [run_typeAssert_map_sl _ 56 20 _ _ _ tm]
  simp only [Result.andThen]
  rw [Oper.upon_value]
  go_wp2
  go_ret
  exact ⟨rfl, rfl⟩

set_option maxHeartbeats 2000000 in
theorem copy_any (b m : Nat) (z : Int) (f : Nat → Int) (w : World) (hT : TabAt Try.prog w b m z f) :
    Calls Try.prog 18 #[.pointer (some ⟨b, 0, none⟩)] w fun e w' => ∃ b' m', e = .returned (.pointer (some ⟨b', 0, none⟩)) ∧ w.heap.size ≤ b' ∧ w.heap.size ≤ m' ∧ TabAt Try.prog w' b' m' z f ∧ Below w.heap.size w w' := by
  obtain ⟨D, ⟨es, clock, h1, h2, h3, h4⟩, hM⟩ := hT.map
  have hc0 := hT.blk.cell 0
  have hc1 := hT.blk.cell 1
  simp at hc0 hc1
  have hbl := hT.blk.lt
  have hml := hT.ltm
  have HC := Lib.hid (fun w' (h : w'.heap[m]? = some (.map es clock)) => clone_any m es clock w' h)
  have H1 := Lib.hid h1; clear h1
  clear hT
  go_enter Try.func18, Try.ntmps18
  go_wp2_with fail
  have hS0 : w.drew.cell? ⟨b, 0, none⟩ = some (.int .i64 z) ∧ w.drew.cell? ⟨b, 1, none⟩ = some (.map (some m)) := ⟨hc0, hc1⟩
  refine wp_region_held_drew (S := fun w' => w'.cell? ⟨b, 0, none⟩ = some (.int .i64 z) ∧ w'.cell? ⟨b, 1, none⟩ = some (.map (some m))) (by kernel_rfl) hS0 (fun hHeld => ?_)
  clear hS0
  refine wpAnyH_takeD (i := 0) (d := some 5) (v := ?_) rfl rfl (by kernel_rfl) (by kernel_rfl) (by kernel_rfl) (fun _ _ _ h => h) (Or.inl ⟨by rfl, ?_⟩) (by assumption) ?_
  rotate_left
  · intro w hSw; (try dsimp only at hSw); go_simp; all_goals (with_reducible rfl)
  simp only [Act.put, List.setIfInBounds_toArray, List.set_cons_zero, List.set_cons_succ]
  refine wpAnyH_takeD (i := 1) (d := some 6) (v := ?_) rfl rfl (by kernel_rfl) (by kernel_rfl) (by kernel_rfl) (fun _ _ _ h => h) (Or.inl ⟨by rfl, ?_⟩) (by assumption) ?_
  rotate_left
  · intro w hSw; (try dsimp only at hSw); go_simp; all_goals (with_reducible rfl)
  simp only [Act.put, List.setIfInBounds_toArray, List.set_cons_zero, List.set_cons_succ]
  refine wpAnyH_takeD (i := 2) (d := some 7) (v := ?_) rfl rfl (by kernel_rfl) (by kernel_rfl) (by kernel_rfl) (fun _ _ _ h => h) (Or.inl ⟨by rfl, ?_⟩) (by assumption) ?_
  rotate_left
  · intro w hSw; (try dsimp only at hSw); go_simp; all_goals (with_reducible rfl)
  simp only [Act.put, List.setIfInBounds_toArray, List.set_cons_zero, List.set_cons_succ]
  refine wpAnyH_takeD (i := 3) (d := some 8) (v := ?_) rfl rfl (by kernel_rfl) (by kernel_rfl) (by kernel_rfl) (fun _ _ _ h => h) (Or.inl ⟨by rfl, ?_⟩) (by assumption) ?_
  rotate_left
  · intro w hSw; (try dsimp only at hSw); go_simp; all_goals (with_reducible rfl)
  simp only [Act.put, List.setIfInBounds_toArray, List.set_cons_zero, List.set_cons_succ]
  refine wpAnyH_takeD (i := 4) (d := some 9) (v := ?_) rfl rfl (by kernel_rfl) (by kernel_rfl) (by kernel_rfl) (fun _ _ _ h => h) (Or.inl ⟨by rfl, ?_⟩) (by assumption) ?_
  rotate_left
  · intro w hSw; (try dsimp only at hSw); go_simp; all_goals (with_reducible rfl)
  simp only [Act.put, List.setIfInBounds_toArray, List.set_cons_zero, List.set_cons_succ]
  refine wpAnyH_takeD (i := 5) (d := some 10) (v := ?_) rfl rfl (by kernel_rfl) (by kernel_rfl) (by kernel_rfl) (fun _ _ _ h => h) (Or.inl ⟨by rfl, ?_⟩) (by assumption) ?_
  rotate_left
  · intro w hSw; (try dsimp only at hSw); go_simp; all_goals (with_reducible rfl)
  simp only [Act.put, List.setIfInBounds_toArray, List.set_cons_zero, List.set_cons_succ]
  refine wpAnyH_takeD (i := 6) (d := some 11) (v := ?_) rfl rfl (by kernel_rfl) (by kernel_rfl) (by kernel_rfl) (fun _ _ _ h => h) (Or.inl ⟨by rfl, ?_⟩) (by assumption) ?_
  rotate_left
  · intro w hSw; (try dsimp only at hSw); go_simp; all_goals (with_reducible rfl)
  simp only [Act.put, List.setIfInBounds_toArray, List.set_cons_zero, List.set_cons_succ]
  refine wpAnyH_takeD (i := 7) (d := some 12) (v := ?_) rfl rfl (by kernel_rfl) (by kernel_rfl) (by kernel_rfl) (fun _ _ _ h => h) (Or.inl ⟨by rfl, ?_⟩) (by assumption) ?_
  rotate_left
  · intro w hSw; (try dsimp only at hSw); go_simp; all_goals (with_reducible rfl)
  simp only [Act.put, List.setIfInBounds_toArray, List.set_cons_zero, List.set_cons_succ]
  refine wpAnyH_ready (rs := [8]) (by kernel_rfl) (by simp) ?_
  refine AllReadyH.cons (o := _) rfl (fun K hK => ?_) AllReadyH.nil
  go_simp
  refine (HC.out w.drew H1.out).mono ?_
  rintro e w1 ⟨rfl, hw1⟩
  rw [hw1]
  go_wp2_with fail
  have hS1 : (w.drew.alloc (.map es clock)).cell? ⟨b, 0, none⟩ = some (.int .i64 z) ∧ (w.drew.alloc (.map es clock)).cell? ⟨b, 1, none⟩ = some (.map (some m)) :=
    ⟨(((Below.refl _ w.drew).alloc (Nat.le_refl _) (.map es clock)).cell (p := ⟨b, 0, none⟩) hbl).trans hc0, (((Below.refl _ w.drew).alloc (Nat.le_refl _) (.map es clock)).cell (p := ⟨b, 1, none⟩) hbl).trans hc1⟩
  refine hK.out _ _ hS1 (fun hHeld => ?_)
  clear hK K hw1
  try simp only [Act.put, List.setIfInBounds_toArray, List.set_cons_zero, List.set_cons_succ]
  refine wpAnyH_takeD (i := 9) (d := some 14) (v := ?_) rfl rfl (by kernel_rfl) (by kernel_rfl) (by kernel_rfl) (fun _ _ _ h => h) (Or.inl ⟨by rfl, ?_⟩) (by assumption) ?_
  rotate_left
  · intro w hSw; (try dsimp only at hSw); go_simp; all_goals (with_reducible rfl)
  simp only [Act.put, List.setIfInBounds_toArray, List.set_cons_zero, List.set_cons_succ]
  refine wpAnyH_ready (rs := [10]) (by kernel_rfl) (by simp) ?_
  refine AllReadyH.cons (o := _) rfl (fun K hK => ?_) AllReadyH.nil
  go_simp
  obtain ⟨W1, hW1⟩ : ∃ W1, (w.alloc (.map es clock)).alloc (.cells #[.int .i64 z, .map (some w.heap.size)] 58) = W1 := ⟨_, rfl⟩
  have hB1 : Below w.heap.size w W1 := by rw [← hW1]; exact ((Below.refl _ _).alloc (Nat.le_refl _) _).alloc (by simp) _
  have hblk : Blk W1 (w.heap.size + 1) #[.int .i64 z, .map (some w.heap.size)] 58 := by
    rw [← hW1]; have := Blk.new (w.alloc (.map es clock)) #[.int .i64 z, .map (some w.heap.size)] 58; simpa using this
  have hmap : W1.heap[w.heap.size]? = some (.map es clock) := by rw [← hW1]; exact (Below.heap_alloc _ _ _ (by simp)).trans (World.alloc_heap_new w _)
  have hS2 : W1.drew.cell? ⟨b, 0, none⟩ = some (.int .i64 z) ∧ W1.drew.cell? ⟨b, 1, none⟩ = some (.map (some m)) := ⟨(hB1.cell (p := ⟨b, 0, none⟩) hbl).trans hc0, (hB1.cell (p := ⟨b, 1, none⟩) hbl).trans hc1⟩
  have HBLK := Lib.hid hblk; clear hblk
  have HMAP := Lib.hid hmap; clear hmap
  have HB1 := Lib.hid hB1; clear hB1
  rw [hW1]
  refine hK.out _ _ hS2 (fun hHeld => ?_)
  clear hK K hW1
  try simp only [Act.put, List.setIfInBounds_toArray, List.set_cons_zero, List.set_cons_succ]
  refine wpAnyH_takeD (i := 11) (d := some 2) (v := ?_) rfl rfl (by kernel_rfl) (by kernel_rfl) (by kernel_rfl) (fun _ _ _ h => h) (Or.inl ⟨by rfl, ?_⟩) (by assumption) ?_
  rotate_left
  · intro w hSw; (try dsimp only at hSw); go_simp; all_goals (with_reducible rfl)
  simp only [Act.put, List.setIfInBounds_toArray, List.set_cons_zero, List.set_cons_succ]
  refine wpAnyH_done (by kernel_rfl) ?_ _
  go_wp2
  go_ret
  exact ⟨w.heap.size + 1, w.heap.size, rfl, by omega, Nat.le_refl _, ⟨HBLK.out, by omega, D, ⟨es, clock, HMAP.out, h2, h3, h4⟩, hM⟩, HB1.out.drew⟩

end Go.Proofs.Ytkpkcimghkmkfaa
