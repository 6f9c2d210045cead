/-
  Contract: awake, the chapter's examples.
-/
import Derived.Test.YtmipppnioanjeaaMkN
import Derived.Test.YtmipppnioanjeaaMkP
import Derived.Test.YtmipppnioanjeaaMkT
import Derived.Laws.Cover4
namespace Go.Proofs.Ytmipppnioanjeaa
open Go.RowKit Go.Shelf Pl14

theorem conv_rd {v : Value} {xs : List Int} {w : World} (h : Rd .i32 w v xs) : (convert 22 9 v).run Try.prog w = .ok (.string (runesBytes xs)) w := by
  obtain ⟨a, cap, rfl, h1, h2, h0, h3⟩ := h
  cases a with
  | none =>
    have : xs = [] := List.eq_nil_of_length_eq_zero (by have := h0 rfl; omega)
    subst this
    exact run_convert_runes_nil w _ _ 21 _ _ Try.underlying22 Try.underlying21 Try.underlying9
  | some a =>
    have := run_convert_runes (P := Try.prog) w 22 9 21 a xs.length cap xs (Nat.le_refl _) Try.underlying22 Try.underlying21 Try.underlying9 ?_
    · rw [this, List.take_length]
    · intro j hj
      rcases h3 with rfl | ⟨b, off, ha, hc⟩
      · simp at hj
      · simp only [Option.some.injEq] at ha
        subst ha
        have e : (⟨b, off, none⟩ : Addr).add j = ⟨b, off + j, none⟩ := by unfold Addr.add; split <;> simp_all
        rw [e]; exact hc j hj

theorem rd_lit (w : World) (cs : Array Value) (T : TypeId) (xs : List Int) (h : cs.toList = xs.map (Value.int .i32)) (hn : xs.length ≤ 9223372036854775807) :
    Rd .i32 (w.alloc (.cells cs T)) (.slice (some ⟨w.heap.size, 0, none⟩) xs.length xs.length) xs := by
  refine ⟨some ⟨w.heap.size, 0, none⟩, xs.length, rfl, Nat.le_refl _, hn, (fun h => by cases h), .inr ⟨w.heap.size, 0, rfl, fun j hj => ?_⟩⟩
  have hb := (Blk.new w cs T).cell (0 + j)
  rw [hb, Nat.zero_add, ← Array.getElem?_toList, h]
  simp [hj]

set_option maxRecDepth 100000 in
set_option maxHeartbeats 4000000 in
theorem awake_any (w : World) : Calls Try.prog 9 #[] w fun e w' => e = .returned (.bool true) ∧ Below w.heap.size w w' := by
  go_enter Try.func9, Try.ntmps9
  go_wp2_with fail
  refine (small_any _).mono ?_
  rintro e w1 ⟨rfl, rfl⟩
  go_wp2_with fail
  refine (behind_any _ [769, 97, 98] _ (rd_lit w #[.int .i32 769, .int .i32 97, .int .i32 98] 21 [769, 97, 98] rfl (by simp)) (by simp)).mono ?_
  rintro e w1 ⟨o1, rfl, ho1, hb1⟩
  have hb1' : Below w.heap.size w w1 := ((Below.refl _ _).alloc (Nat.le_refl _) _).trans (hb1.mono (by simp))
  have hr1 := ho1.rd
  rw [show behind [769, 97, 98] = [97, 769, 98] from by decide] at hr1
  rw [show (heldL [769, 97, 98]).length = 0 from by decide]
  clear hb1 ho1
  go_wp2_with fail
  refine (small_any _).mono ?_
  rintro e w2 ⟨rfl, rfl⟩
  go_wp2_with fail
  refine (ahead_any _ [97, 769, 98] _ (rd_lit w1 #[.int .i32 97, .int .i32 769, .int .i32 98] 21 [97, 769, 98] rfl (by simp)) (by simp)).mono ?_
  rintro e w2 ⟨o2, rfl, ho2, hb2⟩
  have hb2' : Below w1.heap.size w1 w2 := ((Below.refl _ _).alloc (Nat.le_refl _) _).trans (hb2.mono (by simp))
  have hr2 := ho2.rd
  rw [show Pl14.ahead [97, 769, 98] = [769, 97, 98] from by decide] at hr2
  rw [show (heldL [97, 769, 98].reverse).length = 0 from by decide]
  clear hb2 ho2
  go_wp2_with fail
  refine (small_any _).mono ?_
  rintro e w3 ⟨rfl, rfl⟩
  go_wp2_with fail
  refine (sort_any _ _ _ _ _ [97, 769, 807] _ (cls_small _) (rd_lit w2 #[.int .i32 97, .int .i32 769, .int .i32 807] 21 [97, 769, 807] rfl (by simp)) (by simp)).mono ?_
  rintro e w3 ⟨o3, rfl, ho3, hb3⟩
  have hb3' : Below w2.heap.size w2 w3 := ((Below.refl _ _).alloc (Nat.le_refl _) _).trans (hb3.mono (by simp))
  have hr3 := ho3.rd
  rw [show msort [97, 769, 807] = [97, 807, 769] from by decide] at hr3
  clear hb3 ho3
  go_wp2_with fail
  refine (small_any _).mono ?_
  rintro e w4 ⟨rfl, rfl⟩
  go_wp2_with fail
  refine (sequences_any _ [769, 97, 807, 769, 98] _ (rd_lit w3 #[.int .i32 769, .int .i32 97, .int .i32 807, .int .i32 769, .int .i32 98] 21 [769, 97, 807, 769, 98] rfl (by simp)) (by simp)).mono ?_
  rintro e w4 ⟨o4, vs, rfl, ho4, hb4⟩
  have hb4' : Below w3.heap.size w3 w4 := ((Below.refl _ _).alloc (Nat.le_refl _) _).trans (hb4.mono (by simp))
  have hq := ho4.rd
  rw [show seqs [769, 97, 807, 769, 98] = [[769], [97, 807, 769], [98]] from by decide] at hq
  obtain ⟨b, o, cap, u, rfl, hcell, hru⟩ := hq.row 1 (by simp)
  have hb34 := hb4'
  have hb24 : Below w2.heap.size w2 w4 := hb3'.trans (hb34.mono hb3'.size)
  have hb14 : Below w1.heap.size w1 w4 := hb2'.trans (hb24.mono hb2'.size)
  have hbw4 : Below w.heap.size w w4 := hb1'.trans (hb14.mono hb1'.size)
  have k1 := conv_rd (hr1.mono hb14 rfl)
  have k2 := conv_rd (hr2.mono hb24 rfl)
  have k3 := conv_rd (hr3.mono hb34 rfl)
  have k4 := conv_rd hru
  rw [show runesBytes [97, 769, 98] = ⟨#[97, 204, 129, 98]⟩ from by decide] at k1
  rw [show runesBytes [769, 97, 98] = ⟨#[204, 129, 97, 98]⟩ from by decide] at k2
  rw [show runesBytes [97, 807, 769] = ⟨#[97, 204, 167, 204, 129]⟩ from by decide] at k3
  rw [show [[769], [97, 807, 769], [98]].getD 1 [] = ([97, 807, 769] : List Int) from rfl, show runesBytes [97, 807, 769] = ⟨#[97, 204, 167, 204, 129]⟩ from by decide] at k4
  clear hr1 hr2 hr3 hru ho4 hb4 hq hb1' hb2' hb3' hb4' hb14 hb24 hb34
  go_wp2
  go_ret
  exact ⟨rfl, hbw4⟩

end Go.Proofs.Ytmipppnioanjeaa
