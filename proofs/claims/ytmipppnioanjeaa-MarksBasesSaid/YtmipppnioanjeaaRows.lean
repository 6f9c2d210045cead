/-
  No cell of these rows narrows 'for every input' (looked for: loops, veiled, ifaces, maps, wideKeys, modest, calm, conditions, laid).
  DERIVED. THE GIVEN ROWS OF THIS SEAT. 6 by the template 'for every input the law returns true; each argument reads behind the call as it read before'; 0 by the template 'total and deterministic' (their statements: YtmipppnioanjeaaTotals.lean).
  GIVEN WITH THE SEED: the statements are not yours to turn. If you find one false, say at which input.
  Laid BY PROGRAM, IN A SANDBOX (cutbox-rows.mjs): the forced cells as the released guide's own fill.sh prints them over the translation 67e2046cbd368269… (all of the seat's roots in one cut). By AI agents, Wed Nov 11 2026. No macro, syntax, notation, axiom, sorry.
-/
import Derived.Test.YtmipppnioanjeaaChecked
import GoSem.Claim
import GoSem.ClaimJoined
import GoSem.ClaimMapViews
import Derived.JoinedTies
import Derived.KernelRfl
namespace Go.Proofs.Ytmipppnioanjeaa
/- THE CELL 'sum', in the pinned program and in every row, IS THE sha256 OF THE DUMP (.gsa) THAT YtmipppnioanjeaaProg.lean LOADS. Nothing in Lean hashes anything: it is a label: what it is worth is what the hold of that sum in a sandbox is worth. -/
noncomputable def Try.pinned : Pinned := { name := "ytmipppnioanjeaa", sum := "67e2046cbd368269fbacceb6812bf5b5d3bea23de619f771330f1dc5b2b25571", checked := Try.checked }
namespace Rows
def none {H : Type} : Left H := { results := [], args := [] }

/-- 'inkhornlaw14.MarksMoves': WHATEVER THE INPUT: true; the input reads as it did. -/
def marksMovesSpec : ChangeSpec := { name := "marksMoves", fn := fun _ => fun
  | [d] => { results := [.lit (.bool true)], args := [d] }
  | _ => none }
def marksMovesRow : OpenClaim := { program := "ytmipppnioanjeaa", sum := "67e2046cbd368269fbacceb6812bf5b5d3bea23de619f771330f1dc5b2b25571", func := "inkhorn/inkhornlaw14.MarksMoves", spec := "marksMoves", unfollowed := true, recurses := true, apart := false }
def MarksMovesSaid : Prop := marksMovesRow.holds Try.pinned (OpenSpec.ofChange marksMovesSpec)

/-- ITS FALSE NEIGHBOUR: 'it returns false'. Refute it at one input. -/
def marksMovesWrong : ChangeSpec := { name := "marksMoves", fn := fun _ => fun
  | [d] => { results := [.lit (.bool false)], args := [d] }
  | _ => none }
def MarksMovesWrongFalsely : Prop := marksMovesRow.holds Try.pinned (OpenSpec.ofChange marksMovesWrong)

/-- 'inkhornlaw14.MarksBack': WHATEVER THE INPUT: true; the input reads as it did. -/
def marksBackSpec : ChangeSpec := { name := "marksBack", fn := fun _ => fun
  | [d] => { results := [.lit (.bool true)], args := [d] }
  | _ => none }
def marksBackRow : OpenClaim := { program := "ytmipppnioanjeaa", sum := "67e2046cbd368269fbacceb6812bf5b5d3bea23de619f771330f1dc5b2b25571", func := "inkhorn/inkhornlaw14.MarksBack", spec := "marksBack", unfollowed := true, recurses := true, apart := false }
def MarksBackSaid : Prop := marksBackRow.holds Try.pinned (OpenSpec.ofChange marksBackSpec)

/-- ITS FALSE NEIGHBOUR: 'it returns false'. Refute it at one input. -/
def marksBackWrong : ChangeSpec := { name := "marksBack", fn := fun _ => fun
  | [d] => { results := [.lit (.bool false)], args := [d] }
  | _ => none }
def MarksBackWrongFalsely : Prop := marksBackRow.holds Try.pinned (OpenSpec.ofChange marksBackWrong)

/-- 'inkhornlaw14.MarksSorts': WHATEVER THE INPUT: true; the input reads as it did. -/
def marksSortsSpec : ChangeSpec := { name := "marksSorts", fn := fun _ => fun
  | [d1, d2] => { results := [.lit (.bool true)], args := [d1, d2] }
  | _ => none }
def marksSortsRow : OpenClaim := { program := "ytmipppnioanjeaa", sum := "67e2046cbd368269fbacceb6812bf5b5d3bea23de619f771330f1dc5b2b25571", func := "inkhorn/inkhornlaw14.MarksSorts", spec := "marksSorts", unfollowed := true, recurses := true, apart := false }
def MarksSortsSaid : Prop := marksSortsRow.holds Try.pinned (OpenSpec.ofChange marksSortsSpec)

/-- ITS FALSE NEIGHBOUR: 'it returns false'. Refute it at one input. -/
def marksSortsWrong : ChangeSpec := { name := "marksSorts", fn := fun _ => fun
  | [d1, d2] => { results := [.lit (.bool false)], args := [d1, d2] }
  | _ => none }
def MarksSortsWrongFalsely : Prop := marksSortsRow.holds Try.pinned (OpenSpec.ofChange marksSortsWrong)

/-- 'inkhornlaw14.MarksBases': WHATEVER THE INPUT: true; the input reads as it did. -/
def marksBasesSpec : ChangeSpec := { name := "marksBases", fn := fun _ => fun
  | [d] => { results := [.lit (.bool true)], args := [d] }
  | _ => none }
def marksBasesRow : OpenClaim := { program := "ytmipppnioanjeaa", sum := "67e2046cbd368269fbacceb6812bf5b5d3bea23de619f771330f1dc5b2b25571", func := "inkhorn/inkhornlaw14.MarksBases", spec := "marksBases", unfollowed := true, recurses := true, apart := false }
def MarksBasesSaid : Prop := marksBasesRow.holds Try.pinned (OpenSpec.ofChange marksBasesSpec)

/-- ITS FALSE NEIGHBOUR: 'it returns false'. Refute it at one input. -/
def marksBasesWrong : ChangeSpec := { name := "marksBases", fn := fun _ => fun
  | [d] => { results := [.lit (.bool false)], args := [d] }
  | _ => none }
def MarksBasesWrongFalsely : Prop := marksBasesRow.holds Try.pinned (OpenSpec.ofChange marksBasesWrong)

/-- 'inkhornlaw14.MarksPushes': WHATEVER THE INPUT: true; the input reads as it did. -/
def marksPushesSpec : ChangeSpec := { name := "marksPushes", fn := fun _ => fun
  | [d] => { results := [.lit (.bool true)], args := [d] }
  | _ => none }
def marksPushesRow : OpenClaim := { program := "ytmipppnioanjeaa", sum := "67e2046cbd368269fbacceb6812bf5b5d3bea23de619f771330f1dc5b2b25571", func := "inkhorn/inkhornlaw14.MarksPushes", spec := "marksPushes", unfollowed := true, recurses := true, apart := false }
def MarksPushesSaid : Prop := marksPushesRow.holds Try.pinned (OpenSpec.ofChange marksPushesSpec)

/-- ITS FALSE NEIGHBOUR: 'it returns false'. Refute it at one input. -/
def marksPushesWrong : ChangeSpec := { name := "marksPushes", fn := fun _ => fun
  | [d] => { results := [.lit (.bool false)], args := [d] }
  | _ => none }
def MarksPushesWrongFalsely : Prop := marksPushesRow.holds Try.pinned (OpenSpec.ofChange marksPushesWrong)

/-- 'inkhornlaw14.MarksNil': WHATEVER THE INPUT: true; the input reads as it did. -/
def marksNilSpec : ChangeSpec := { name := "marksNil", fn := fun _ => fun
  | [d] => { results := [.lit (.bool true)], args := [d] }
  | _ => none }
def marksNilRow : OpenClaim := { program := "ytmipppnioanjeaa", sum := "67e2046cbd368269fbacceb6812bf5b5d3bea23de619f771330f1dc5b2b25571", func := "inkhorn/inkhornlaw14.MarksNil", spec := "marksNil", unfollowed := true, recurses := true, apart := false }
def MarksNilSaid : Prop := marksNilRow.holds Try.pinned (OpenSpec.ofChange marksNilSpec)

/-- ITS FALSE NEIGHBOUR: 'it returns false'. Refute it at one input. -/
def marksNilWrong : ChangeSpec := { name := "marksNil", fn := fun _ => fun
  | [d] => { results := [.lit (.bool false)], args := [d] }
  | _ => none }
def MarksNilWrongFalsely : Prop := marksNilRow.holds Try.pinned (OpenSpec.ofChange marksNilWrong)

/- THE SECOND FORM. 'bulk': how many values and letters a reading holds, each counted each time it is reached (what is shared counts as often as it is met; a slice's spare places count too). A statement '..UptoSaid' is the law's where the arguments, and the package variables that the reading takes, are together of bulk at most 1048576: NARROWER than '..Said'. Prove '..Said' where nothing that the law and all that it calls make is longer than what came in: it says more and counts as full. Else prove '..UptoSaid'. A law counts once. -/
mutual
def uptoBulk {H : Type} : DataW H → Nat
  | .lit (.string bytes) => bytes.length + 1
  | .lit _ => 1
  | .nil => 1
  | .ptr d => uptoBulk d + 1
  | .slice elems spare => uptoBulkAll elems + uptoBulkAll spare + 1
  | .agg parts => uptoBulkAll parts + 1
  | .iface _ d => uptoBulk d + 1
  | .map entries => uptoBulkEntries entries + 1
  | .held _ => 1
def uptoBulkAll {H : Type} : List (DataW H) → Nat
  | [] => 0
  | d :: r => uptoBulk d + uptoBulkAll r
def uptoBulkEntries {H : Type} : List (Lit × DataW H) → Nat
  | [] => 0
  | x :: r => uptoBulkEntry x + uptoBulkEntries r
def uptoBulkEntry {H : Type} : Lit × DataW H → Nat
  | (.string bytes, d) => bytes.length + uptoBulk d + 1
  | (_, d) => uptoBulk d + 1
 end
def uptoSmall : (H : Type) → List (DataW H) → Bool := fun _ ds => decide (uptoBulkAll ds ≤ 1048576)
def OpenSpec.upto (s : _root_.Go.ChangeSpec) : _root_.Go.OpenSpec := { _root_.Go.OpenSpec.ofChange s with cond := some uptoSmall }

/-- 'inkhornlaw14.MarksMoves', WHERE WHAT IT READS IS OF BULK AT MOST 1048576: true; the input reads as it did. -/
def marksMovesUptoRow : OpenClaim := { program := "ytmipppnioanjeaa", sum := "67e2046cbd368269fbacceb6812bf5b5d3bea23de619f771330f1dc5b2b25571", func := "inkhorn/inkhornlaw14.MarksMoves", spec := "marksMoves", unfollowed := true, recurses := true, apart := false, narrowed := true }
def MarksMovesUptoSaid : Prop := marksMovesUptoRow.holds Try.pinned (OpenSpec.upto marksMovesSpec)

/-- 'inkhornlaw14.MarksBack', WHERE WHAT IT READS IS OF BULK AT MOST 1048576: true; the input reads as it did. -/
def marksBackUptoRow : OpenClaim := { program := "ytmipppnioanjeaa", sum := "67e2046cbd368269fbacceb6812bf5b5d3bea23de619f771330f1dc5b2b25571", func := "inkhorn/inkhornlaw14.MarksBack", spec := "marksBack", unfollowed := true, recurses := true, apart := false, narrowed := true }
def MarksBackUptoSaid : Prop := marksBackUptoRow.holds Try.pinned (OpenSpec.upto marksBackSpec)

/-- 'inkhornlaw14.MarksSorts', WHERE WHAT IT READS IS OF BULK AT MOST 1048576: true; the input reads as it did. -/
def marksSortsUptoRow : OpenClaim := { program := "ytmipppnioanjeaa", sum := "67e2046cbd368269fbacceb6812bf5b5d3bea23de619f771330f1dc5b2b25571", func := "inkhorn/inkhornlaw14.MarksSorts", spec := "marksSorts", unfollowed := true, recurses := true, apart := false, narrowed := true }
def MarksSortsUptoSaid : Prop := marksSortsUptoRow.holds Try.pinned (OpenSpec.upto marksSortsSpec)

/-- 'inkhornlaw14.MarksBases', WHERE WHAT IT READS IS OF BULK AT MOST 1048576: true; the input reads as it did. -/
def marksBasesUptoRow : OpenClaim := { program := "ytmipppnioanjeaa", sum := "67e2046cbd368269fbacceb6812bf5b5d3bea23de619f771330f1dc5b2b25571", func := "inkhorn/inkhornlaw14.MarksBases", spec := "marksBases", unfollowed := true, recurses := true, apart := false, narrowed := true }
def MarksBasesUptoSaid : Prop := marksBasesUptoRow.holds Try.pinned (OpenSpec.upto marksBasesSpec)

/-- 'inkhornlaw14.MarksPushes', WHERE WHAT IT READS IS OF BULK AT MOST 1048576: true; the input reads as it did. -/
def marksPushesUptoRow : OpenClaim := { program := "ytmipppnioanjeaa", sum := "67e2046cbd368269fbacceb6812bf5b5d3bea23de619f771330f1dc5b2b25571", func := "inkhorn/inkhornlaw14.MarksPushes", spec := "marksPushes", unfollowed := true, recurses := true, apart := false, narrowed := true }
def MarksPushesUptoSaid : Prop := marksPushesUptoRow.holds Try.pinned (OpenSpec.upto marksPushesSpec)

/-- 'inkhornlaw14.MarksNil', WHERE WHAT IT READS IS OF BULK AT MOST 1048576: true; the input reads as it did. -/
def marksNilUptoRow : OpenClaim := { program := "ytmipppnioanjeaa", sum := "67e2046cbd368269fbacceb6812bf5b5d3bea23de619f771330f1dc5b2b25571", func := "inkhorn/inkhornlaw14.MarksNil", spec := "marksNil", unfollowed := true, recurses := true, apart := false, narrowed := true }
def MarksNilUptoSaid : Prop := marksNilUptoRow.holds Try.pinned (OpenSpec.upto marksNilSpec)

end Rows
end Go.Proofs.Ytmipppnioanjeaa
