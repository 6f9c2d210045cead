/-
  slices.Sort at rune, assembled: it sorts.
-/
import Derived.Test.YtkpkcimghkmkfaaS3T
import Derived.Test.YtkpkcimghkmkfaaS3Q
import Derived.Sort.AssemblyPlain
namespace Go.Proofs.Ytkpkcimghkmkfaa
open Go.Sort Go.RowKit

theorem callees32 : Callees32 where
  ins := so_insertionSort
  brk := so_breakPatterns
  piv := so_choosePivot
  par := so_partialInsertionSort
  peq := so_partitionEqualOrdered
  prt := so_partitionOrdered

theorem plain32 : Plain13 where
  swo := swo_ltInt
  ins := insertionSort_holds
  par := partialInsertionSort_holds
  prt := partition_holds _
  peq := partitionEqual_holds _
  pdq := pdq_sorts _

theorem pdq32 : pdqWalk_32 := fun blk off cap a b limit d w hH hb hab hbd hsz hl hB =>
  so_pdqsort callees32 plain32 (b - a + 1) blk off cap a b limit d w (by omega) hH hb hab hbd hsz hl hB

theorem sort_int_eq (zs : List Int) : Sort.sort ltInt zs.toArray = (zs.mergeSort fun x y => decide (x ≤ y)).toArray := by
  rw [← sortInt zs]

theorem sort32 (blk off cap : Nat) (zs : List Int) (w : World) (hH : Holds (Value.int .i32) w blk off zs.toArray) (hblk : blk < w.heap.size) (hsz : zs.length < 4611686018427387904) :
    Calls Try.prog 45 #[.slice (some ⟨blk, off, none⟩) zs.length cap] w fun e w' =>
      e = .returned (.tuple #[]) ∧ ∃ n os, w' = grow (putRow (Value.int .i32) (Sort.ahead w n) blk off (zs.mergeSort fun x y => decide (x ≤ y)).toArray) os := by
  have h := so_Sort pdq32 blk off cap zs.toArray w hH hblk (by simpa using hsz)
  rw [sort_int_eq] at h
  simpa using h

end Go.Proofs.Ytkpkcimghkmkfaa
