/-
  Layer 6 (trie): a slice of spans that is read; wide.
-/
import Derived.Test.YtkpkcimghkmkfaaTrE
import Derived.Deep.QuietTactic
import Derived.BigQuiet
namespace Go.Proofs.Ytkpkcimghkmkfaa
open Go.RowKit

/-- some truth value -/
def ABool (e : Ending) : Prop := ∃ t : Bool, e = .returned (.bool t)

def RdSp (w : World) (v : Value) (ss : List (Int × Int × Int)) : Prop :=
  ∃ a cap, v = .slice a ss.length cap ∧ ss.length ≤ cap ∧ cap ≤ 9223372036854775807 ∧
    (ss = [] ∨ ∃ b o, a = some ⟨b, o, none⟩ ∧ ∀ j, j < ss.length → w.cell? ⟨b, o + j * 3, none⟩ = some (.int .i32 (ss.getD j (0, 0, 0)).1) ∧ w.cell? ⟨b, o + j * 3 + 1, none⟩ = some (.int .i32 (ss.getD j (0, 0, 0)).2.1) ∧
      w.cell? ⟨b, o + j * 3 + 2, none⟩ = some (.int .i64 (ss.getD j (0, 0, 0)).2.2) ∧ -2147483648 ≤ (ss.getD j (0, 0, 0)).1 ∧ (ss.getD j (0, 0, 0)).1 ≤ 2147483647 ∧ -2147483648 ≤ (ss.getD j (0, 0, 0)).2.1 ∧ (ss.getD j (0, 0, 0)).2.1 ≤ 2147483647)

theorem RdSp.mono {w w' : World} {v : Value} {ss : List (Int × Int × Int)} (h : RdSp w v ss) {B : Nat} (hb : Below B w w') (hB : B = w.heap.size) : RdSp w' v ss := by
  subst hB
  obtain ⟨a, cap, rfl, h1, h2, h3⟩ := h
  refine ⟨a, cap, rfl, h1, h2, ?_⟩
  rcases h3 with h3 | ⟨b, o, rfl, h3⟩
  · exact .inl h3
  · refine .inr ⟨b, o, rfl, fun j hj => ?_⟩
    obtain ⟨c1, c2, c3, hr⟩ := h3 j hj
    exact ⟨(hb.cell (p := ⟨b, o + j * 3, none⟩) (cell_lt c1)).trans c1, (hb.cell (p := ⟨b, o + j * 3 + 1, none⟩) (cell_lt c2)).trans c2, (hb.cell (p := ⟨b, o + j * 3 + 2, none⟩) (cell_lt c3)).trans c3, hr⟩

set_option maxRecDepth 100000 in
set_option maxHeartbeats 4000000 in
theorem wide_any (v : Value) (ss : List (Int × Int × Int)) (w : World) (h : RdSp w v ss) :
    Calls Try.prog 10 #[v] w fun e w' => ABool e ∧ Below w.heap.size w w' := by
  obtain ⟨a, cap, rfl, h1, h2, h3⟩ := h
  have HS := Lib.hid h3; clear h3
  go_enter Try.func10, Try.ntmps10
  go_wp2
  go_loopw [3, 4] (fun s3 s4 wr => ∃ (n : Int) (k : Nat), k ≤ ss.length ∧ s3 = .int .i64 n ∧ s4 = .int .i64 k ∧ Below w.heap.size w wr) (fun _ s4 _ => ss.length - (intOf s4).toNat)
  case atStart => exact ⟨0, 0, Nat.zero_le _, rfl, rfl, Below.refl _ _⟩
  case round =>
    obtain ⟨n, k, hk, rfl, rfl, hbl⟩ := hrel
    by_cases hlt : k < ss.length
    · rcases HS.out with hnil | ⟨b, o, rfl, hc⟩
      · rw [hnil] at hlt; simp at hlt
      obtain ⟨c1, c2, c3, r1, r2, r3, r4⟩ := hc k hlt
      clear hc
      obtain ⟨⟨fr, up, vv⟩, hs⟩ : ∃ s, ss.getD k (0, 0, 0) = s := ⟨_, rfl⟩
      rw [hs] at c1 c2 c3 r1 r2 r3 r4
      dsimp only at c1 c2 c3 r1 r2 r3 r4
      have d1 : wr.cell? ⟨b, o + k * 3, none⟩ = some (.int .i32 fr) := (hbl.cell (p := ⟨b, o + k * 3, none⟩) (cell_lt c1)).trans c1
      have d2 : wr.cell? ⟨b, o + k * 3 + 1, none⟩ = some (.int .i32 up) := (hbl.cell (p := ⟨b, o + k * 3 + 1, none⟩) (cell_lt c2)).trans c2
      clear c1 c2 c3 hs
      have i1 : (0 : Int) ≤ (k : Int) := by omega
      have i2 : (k : Int) < (ss.length : Int) := by omega
      by_cases g1 : 0 ≤ fr
      · have e1 : decide (0 ≤ fr) = true := decide_eq_true g1
        by_cases g2 : up ≤ 1114111
        · have e2 : decide (up ≤ 1114111) = true := decide_eq_true g2
          by_cases g3 : fr ≤ up
          · have e3 : decide (fr ≤ up) = true := decide_eq_true g3
            have hw : IntKind.i32.wrap (up - fr) = up - fr := IntWalk.i32_in _ (by omega)
            go_wp2
            go_quiet (fail)
            go_wp2
            go_quiet (fail)
            go_wp2
            go_roundw
            case rel => exact ⟨_, k + 1, by omega, rfl, by go_num, hbl.drewN _⟩
            case measure => simp [intOf]; omega
          · have e3 : decide (fr ≤ up) = false := decide_eq_false g3
            go_wp2
            go_quiet (fail)
            go_wp2
            go_roundw
            case rel => exact ⟨_, k + 1, by omega, rfl, by go_num, hbl.drewN _⟩
            case measure => simp [intOf]; omega
        · have e2 : decide (up ≤ 1114111) = false := decide_eq_false g2
          go_wp2
          go_quiet (fail)
          go_wp2
          go_roundw
          case rel => exact ⟨_, k + 1, by omega, rfl, by go_num, hbl.drewN _⟩
          case measure => simp [intOf]; omega
      · have e1 : decide (0 ≤ fr) = false := decide_eq_false g1
        go_wp2
        go_quiet (fail)
        go_wp2
        go_roundw
        case rel => exact ⟨_, k + 1, by omega, rfl, by go_num, hbl.drewN _⟩
        case measure => simp [intOf]; omega
    · have hend : ¬ (k : Int) < (ss.length : Int) := by omega
      by_cases h40 : 40 < ss.length
      · have g40 : (40 : Int) < (ss.length : Int) := by omega
        go_wp2
        go_ret
        exact ⟨⟨_, rfl⟩, hbl⟩
      · have g40 : ¬ (40 : Int) < (ss.length : Int) := by omega
        go_wp2
        go_ret
        exact ⟨⟨_, rfl⟩, hbl⟩

end Go.Proofs.Ytkpkcimghkmkfaa
