/-
  Layer 6 (trie): plain. (The program is a letter here, with the facts of its types at hand but two: that an array is an aggregate of 256 cells; else the walk reads and writes it cell by cell.)
-/
import Derived.Test.YtkpkcimghkmkfaaLibT
import Derived.Test.YtkpkcimghkmkfaaProg
import Derived.Deep.WholeRow
import Derived.Laws.ResultCell
namespace Go.Proofs.Ytkpkcimghkmkfaa
open Go.RowKit

theorem results_cell1 {P : Program} {fn : Func} {p : Tmp} {ty : TypeId} {tmps : Array Value} {w : World} {a : Addr} {v : Value} (h : fn.results = #[.cell p ty]) (hp : tmps.getD p undef = .pointer (some a))
    (hl : (loadVar ty a).run P w = .ok v w) : (results fn tmps).run P w = .ok v w := by
  have h1 : (asAddr (tmps.getD p undef)).run P w = .ok a w := by rw [hp]; rfl
  have h2 : (results fn tmps).run P w = ((asAddr (tmps.getD p undef)).run P w).andThen fun a w₁ => (loadVar ty a).run P w₁ := by
    simp only [results, h]
    simp [Sem.run_bind, Result.andThen]
  rw [h2, h1]
  exact hl

def Is (P : Program) : Prop := P = Try.prog

theorem arr_zero (w : World) : (zeroValue 60).run Try.prog w = .ok (.agg (arrI fun _ => 0)) w := by
  have h : Try.zeroCells60 = arrI fun _ => 0 := by kernel_rfl
  rw [Try.zeroValue60 w, h]

set_option maxRecDepth 100000 in
set_option maxHeartbeats 1000000 in
theorem plain_any (P : Program) (hP : Is P) (b : Nat) (z : Int) (w : World) (hb : w.cell? ⟨b, 0, none⟩ = some (.int .i64 z)) :
    Calls P 26 #[.pointer (some ⟨b, 0, none⟩)] w fun e w' => e = .returned (.agg (arrI fun _ => z)) ∧ Below w.heap.size w w' := by
  have hf := Try.func26; rw [← hP] at hf
  have t3 := Try.underlying3; rw [← hP] at t3
  have a3 := Try.isAgg3; rw [← hP] at a3
  have z3 := Try.sizeOf3; rw [← hP] at z3
  have v3 := Try.zeroValue3; rw [← hP] at v3
  have t60 := Try.underlying60; rw [← hP] at t60
  have v60 := arr_zero; rw [← hP] at v60
  have i60 : (P.info? 60).map (·.size) = some 256 := by rw [hP]; kernel_rfl
  have r58 := Try.runUnderlying58; rw [← hP] at r58
  clear hP
  go_enter hf, Try.ntmps26
  have hbw := cell_lt hb
  go_wp2
  go_loopw [3, 4] (fun _ i wr => ∃ k : Nat, k ≤ 256 ∧ i = .int .i64 k ∧ RowF .i64 wr w.heap.size 0 256 (fun j => if j < k then z else 0) ∧ Below w.heap.size w wr) (fun _ i _ => 256 - (intOf i).toNat)
  case atStart =>
    refine ⟨0, by omega, rfl, ?_, (Below.refl _ _).alloc (Nat.le_refl _) _⟩
    intro j hj
    have hbk := Blk.new w (arrI fun _ => 0) 60
    refine ⟨(hbk.cell (0 + j)).trans ?_, hbk.frozen _⟩
    rw [Nat.zero_add, arrI_at _ j hj]; simp
  case round =>
    obtain ⟨k, hk, rfl, hrow, hbl⟩ := hrel
    have hbs := hbl.size
    have hbr : wr.cell? ⟨b, 0, none⟩ = some (.int .i64 z) := by rw [hbl.cell hbw]; exact hb
    by_cases hlt : k < 256
    · have i1 : (0 : Int) ≤ (k : Int) := by omega
      have i2 : (k : Int) < 256 := by omega
      have hck := (hrow k hlt).1
      have hfk := (hrow k hlt).2
      rw [Nat.zero_add] at hck hfk
      have HR := Lib.hid hrow; clear hrow
      go_wp2
      go_roundw
      case rel =>
        refine ⟨k + 1, by omega, by go_num, ?_, hbl.setCell (p := ⟨w.heap.size, k, none⟩) (Nat.le_refl _) _⟩
        have := HR.out.set k z hlt
        rw [Nat.zero_add] at this
        refine this.congr fun j hj => ?_
        unfold setF
        by_cases e : j = k
        · rw [if_pos e, if_pos (by omega)]
        · rw [if_neg e]
          show (if j < k then z else 0) = _
          by_cases e2 : j < k
          · rw [if_pos e2, if_pos (by omega)]
          · rw [if_neg e2, if_neg (by omega)]
      case measure => simp [intOf]; omega
    · have hrz : RowF .i64 wr w.heap.size 0 256 (fun _ => z) := hrow.congr fun j hj => by rw [if_pos (by omega)]
      have HR := Lib.hid hrz; clear hrow hrz
      have i2 : ¬ (k : Int) < 256 := by omega
      go_wp2_with (first
        | (refine wpList_load_mid rfl 60 _ rfl w.heap.size 0 rfl (cellsL fun _ => z) _ HR.out.rangeAt t60 rfl (by rw [cellsL_length]; exact i60) ?_)
        | (refine wpList_store_mid rfl 60 _ _ rfl w.heap.size 0 (arrI fun _ => z) rfl rfl (by rw [arrI_size]; exact HR.out.thereI) (by rw [arrI_size]; exact i60) (all_oneCell_toArray (cells_one _)) ?_))
      have hr2 := HR.out.stored fun _ => z
      refine bodyPost_ret (v := .agg (arrI fun _ => z)) ?_ rfl ⟨rfl, hbl.trans ((Keep.of_setCells wr w.heap.size _ 0).below hbs (fun j hj => by omega))⟩
      exact results_cell1 (a := ⟨w.heap.size, 0, none⟩) rfl rfl (run_loadVar_mid _ w.heap.size 0 60 (cellsL fun _ => z) _ hr2.rangeAt t60 rfl (by rw [cellsL_length]; exact i60))

end Go.Proofs.Ytkpkcimghkmkfaa
