/-
  NARROWER THAN 'FOR EVERY INPUT', by the rows' own cells (each row's printed sentence says how): MultiDecodes: laid · MultiCodes: laid · MultiRest: laid · MultiAgain: laid · MultiNil: laid · MultiSteps: laid.
  DERIVED. THE GIVEN ROWS OF THIS SEAT. 6 by the template 'for every input the law returns true; each argument reads behind the call as it read before'; 0 by the template 'total and deterministic' (their statements: YtplobpelhcagpaaDoorTotals.lean).
  GIVEN WITH THE SEED: the statements are not yours to turn. If you find one false, say at which input.
  Laid BY PROGRAM, IN A SANDBOX (cutbox-rows.mjs): the forced cells as the released guide's own fill.sh prints them over the translation 1cd4976506d29507… (all of the seat's roots in one cut). By AI agents, Wed Nov 11 2026. No macro, syntax, notation, axiom, sorry.
-/
import Derived.Test.YtplobpelhcagpaaDoorChecked
import GoSem.PinnedTables
import GoSem.Claim
import GoSem.ClaimJoined
import GoSem.ClaimMapViews
import Derived.JoinedTies
import Derived.KernelRfl
namespace Go.Proofs.YtplobpelhcagpaaDoor
/- THE CELL 'sum', in the pinned program and in every row, IS THE sha256 OF THE DUMP (.gsa) THAT YtplobpelhcagpaaDoorProg.lean LOADS. Nothing in Lean hashes anything: it is a label: what it is worth is what the hold of that sum in a sandbox is worth. -/
noncomputable def Tryd.pinned : Pinned := { name := "ytplobpelhcagpaadoor", sum := "1cd4976506d295075f18fb3c2716f1b18d383f654757914a4e4a26dd147b9980", checked := Tryd.checked }
namespace Rows
def none {H : Type} : Left H := { results := [], args := [] }

/- WHAT THE LISTED PACKAGE-LEVEL VARIABLES READ AS WHEN THE CALL BEGINS. Each datum BY PROGRAM (the guide's laid-datum.mjs) off the statement by which the dump's own 'gosem.cut.vars' lays the variable. In a bare row this is a premise. The card (YtplobpelhcagpaaDoorCards.lean) ties it to the program's text. -/
def laid_unicode_utf8_acceptRanges {H : Type} : DataW H := .agg [.agg [.lit (.int .u8 128), .lit (.int .u8 191)], .agg [.lit (.int .u8 160), .lit (.int .u8 191)], .agg [.lit (.int .u8 128), .lit (.int .u8 159)], .agg [.lit (.int .u8 144), .lit (.int .u8 191)], .agg [.lit (.int .u8 128), .lit (.int .u8 143)], .agg [.lit (.int .u8 0), .lit (.int .u8 0)], .agg [.lit (.int .u8 0), .lit (.int .u8 0)], .agg [.lit (.int .u8 0), .lit (.int .u8 0)], .agg [.lit (.int .u8 0), .lit (.int .u8 0)], .agg [.lit (.int .u8 0), .lit (.int .u8 0)], .agg [.lit (.int .u8 0), .lit (.int .u8 0)], .agg [.lit (.int .u8 0), .lit (.int .u8 0)], .agg [.lit (.int .u8 0), .lit (.int .u8 0)], .agg [.lit (.int .u8 0), .lit (.int .u8 0)], .agg [.lit (.int .u8 0), .lit (.int .u8 0)], .agg [.lit (.int .u8 0), .lit (.int .u8 0)]]
/-- One of Go's own tables, pinned by name: the form's constant. -/
def laid_unicode_utf8_first : DataW Unit := Go.Pinned.utf8First

/-- 'inkhornlaw19.MultiDecodes': WHATEVER THE INPUT: true; the input reads as it did. -/
def multiDecodesSpec : ChangeSpec := { name := "multiDecodes", fn := fun _ => fun
  | [d1, d2, d3] => { results := [.lit (.bool true)], args := [d1, d2, d3] }
  | _ => none }
def multiDecodesRow : OpenClaim := { program := "ytplobpelhcagpaadoor", sum := "1cd4976506d295075f18fb3c2716f1b18d383f654757914a4e4a26dd147b9980", func := "inkhorn/inkhornlaw19.MultiDecodes", spec := "multiDecodes", inPlace := ["internal/bytealg.abigen_runtime_cmpstring", "internal/abi.NoEscape"], unfollowed := true, recurses := true, named := ["unicode/utf8.first", "unicode/utf8.acceptRanges"], apart := false, laid := [("unicode/utf8.acceptRanges", laid_unicode_utf8_acceptRanges), ("unicode/utf8.first", laid_unicode_utf8_first)] }
def MultiDecodesSaid : Prop := multiDecodesRow.holds Tryd.pinned (OpenSpec.ofChange multiDecodesSpec)

/-- ITS FALSE NEIGHBOUR: 'it returns false'. Refute it at one input. -/
def multiDecodesWrong : ChangeSpec := { name := "multiDecodes", fn := fun _ => fun
  | [d1, d2, d3] => { results := [.lit (.bool false)], args := [d1, d2, d3] }
  | _ => none }
def MultiDecodesWrongFalsely : Prop := multiDecodesRow.holds Tryd.pinned (OpenSpec.ofChange multiDecodesWrong)

/-- 'inkhornlaw19.MultiCodes': WHATEVER THE INPUT: true; the input reads as it did. -/
def multiCodesSpec : ChangeSpec := { name := "multiCodes", fn := fun _ => fun
  | [d1, d2, d3] => { results := [.lit (.bool true)], args := [d1, d2, d3] }
  | _ => none }
def multiCodesRow : OpenClaim := { program := "ytplobpelhcagpaadoor", sum := "1cd4976506d295075f18fb3c2716f1b18d383f654757914a4e4a26dd147b9980", func := "inkhorn/inkhornlaw19.MultiCodes", spec := "multiCodes", inPlace := ["internal/bytealg.abigen_runtime_cmpstring", "internal/abi.NoEscape"], unfollowed := true, recurses := true, named := ["unicode/utf8.first", "unicode/utf8.acceptRanges"], apart := false, laid := [("unicode/utf8.acceptRanges", laid_unicode_utf8_acceptRanges), ("unicode/utf8.first", laid_unicode_utf8_first)] }
def MultiCodesSaid : Prop := multiCodesRow.holds Tryd.pinned (OpenSpec.ofChange multiCodesSpec)

/-- ITS FALSE NEIGHBOUR: 'it returns false'. Refute it at one input. -/
def multiCodesWrong : ChangeSpec := { name := "multiCodes", fn := fun _ => fun
  | [d1, d2, d3] => { results := [.lit (.bool false)], args := [d1, d2, d3] }
  | _ => none }
def MultiCodesWrongFalsely : Prop := multiCodesRow.holds Tryd.pinned (OpenSpec.ofChange multiCodesWrong)

/-- 'inkhornlaw19.MultiRest': WHATEVER THE INPUT: true; the input reads as it did. -/
def multiRestSpec : ChangeSpec := { name := "multiRest", fn := fun _ => fun
  | [d1, d2] => { results := [.lit (.bool true)], args := [d1, d2] }
  | _ => none }
def multiRestRow : OpenClaim := { program := "ytplobpelhcagpaadoor", sum := "1cd4976506d295075f18fb3c2716f1b18d383f654757914a4e4a26dd147b9980", func := "inkhorn/inkhornlaw19.MultiRest", spec := "multiRest", inPlace := ["internal/bytealg.abigen_runtime_cmpstring", "internal/abi.NoEscape"], unfollowed := true, recurses := true, named := ["unicode/utf8.first", "unicode/utf8.acceptRanges"], apart := false, laid := [("unicode/utf8.acceptRanges", laid_unicode_utf8_acceptRanges), ("unicode/utf8.first", laid_unicode_utf8_first)] }
def MultiRestSaid : Prop := multiRestRow.holds Tryd.pinned (OpenSpec.ofChange multiRestSpec)

/-- ITS FALSE NEIGHBOUR: 'it returns false'. Refute it at one input. -/
def multiRestWrong : ChangeSpec := { name := "multiRest", fn := fun _ => fun
  | [d1, d2] => { results := [.lit (.bool false)], args := [d1, d2] }
  | _ => none }
def MultiRestWrongFalsely : Prop := multiRestRow.holds Tryd.pinned (OpenSpec.ofChange multiRestWrong)

/-- 'inkhornlaw19.MultiAgain': WHATEVER THE INPUT: true; the input reads as it did. -/
def multiAgainSpec : ChangeSpec := { name := "multiAgain", fn := fun _ => fun
  | [d1, d2, d3] => { results := [.lit (.bool true)], args := [d1, d2, d3] }
  | _ => none }
def multiAgainRow : OpenClaim := { program := "ytplobpelhcagpaadoor", sum := "1cd4976506d295075f18fb3c2716f1b18d383f654757914a4e4a26dd147b9980", func := "inkhorn/inkhornlaw19.MultiAgain", spec := "multiAgain", inPlace := ["internal/bytealg.abigen_runtime_cmpstring", "internal/abi.NoEscape"], unfollowed := true, recurses := true, named := ["unicode/utf8.first", "unicode/utf8.acceptRanges"], apart := false, laid := [("unicode/utf8.acceptRanges", laid_unicode_utf8_acceptRanges), ("unicode/utf8.first", laid_unicode_utf8_first)] }
def MultiAgainSaid : Prop := multiAgainRow.holds Tryd.pinned (OpenSpec.ofChange multiAgainSpec)

/-- ITS FALSE NEIGHBOUR: 'it returns false'. Refute it at one input. -/
def multiAgainWrong : ChangeSpec := { name := "multiAgain", fn := fun _ => fun
  | [d1, d2, d3] => { results := [.lit (.bool false)], args := [d1, d2, d3] }
  | _ => none }
def MultiAgainWrongFalsely : Prop := multiAgainRow.holds Tryd.pinned (OpenSpec.ofChange multiAgainWrong)

/-- 'inkhornlaw19.MultiNil': WHATEVER THE INPUT: true; the input reads as it did. -/
def multiNilSpec : ChangeSpec := { name := "multiNil", fn := fun _ => fun
  | [d1, d2] => { results := [.lit (.bool true)], args := [d1, d2] }
  | _ => none }
def multiNilRow : OpenClaim := { program := "ytplobpelhcagpaadoor", sum := "1cd4976506d295075f18fb3c2716f1b18d383f654757914a4e4a26dd147b9980", func := "inkhorn/inkhornlaw19.MultiNil", spec := "multiNil", inPlace := ["internal/bytealg.abigen_runtime_cmpstring", "internal/abi.NoEscape"], unfollowed := true, recurses := true, named := ["unicode/utf8.first", "unicode/utf8.acceptRanges"], apart := false, laid := [("unicode/utf8.acceptRanges", laid_unicode_utf8_acceptRanges), ("unicode/utf8.first", laid_unicode_utf8_first)] }
def MultiNilSaid : Prop := multiNilRow.holds Tryd.pinned (OpenSpec.ofChange multiNilSpec)

/-- ITS FALSE NEIGHBOUR: 'it returns false'. Refute it at one input. -/
def multiNilWrong : ChangeSpec := { name := "multiNil", fn := fun _ => fun
  | [d1, d2] => { results := [.lit (.bool false)], args := [d1, d2] }
  | _ => none }
def MultiNilWrongFalsely : Prop := multiNilRow.holds Tryd.pinned (OpenSpec.ofChange multiNilWrong)

/-- 'inkhornlaw19.MultiSteps': WHATEVER THE INPUT: true; the input reads as it did. -/
def multiStepsSpec : ChangeSpec := { name := "multiSteps", fn := fun _ => fun
  | [d1, d2, d3] => { results := [.lit (.bool true)], args := [d1, d2, d3] }
  | _ => none }
def multiStepsRow : OpenClaim := { program := "ytplobpelhcagpaadoor", sum := "1cd4976506d295075f18fb3c2716f1b18d383f654757914a4e4a26dd147b9980", func := "inkhorn/inkhornlaw19.MultiSteps", spec := "multiSteps", inPlace := ["internal/bytealg.abigen_runtime_cmpstring", "internal/abi.NoEscape"], unfollowed := true, recurses := true, named := ["unicode/utf8.first", "unicode/utf8.acceptRanges"], apart := false, laid := [("unicode/utf8.acceptRanges", laid_unicode_utf8_acceptRanges), ("unicode/utf8.first", laid_unicode_utf8_first)] }
def MultiStepsSaid : Prop := multiStepsRow.holds Tryd.pinned (OpenSpec.ofChange multiStepsSpec)

/-- ITS FALSE NEIGHBOUR: 'it returns false'. Refute it at one input. -/
def multiStepsWrong : ChangeSpec := { name := "multiSteps", fn := fun _ => fun
  | [d1, d2, d3] => { results := [.lit (.bool false)], args := [d1, d2, d3] }
  | _ => none }
def MultiStepsWrongFalsely : Prop := multiStepsRow.holds Tryd.pinned (OpenSpec.ofChange multiStepsWrong)

/- THE SECOND FORM. 'bulk': how many values and letters a reading holds, each counted each time it is reached (what is shared counts as often as it is met; a slice's spare places count too). A statement '..UptoSaid' is the law's where the arguments, and the package variables that the reading takes, are together of bulk at most 1048576: NARROWER than '..Said'. Prove '..Said' where nothing that the law and all that it calls make is longer than what came in: it says more and counts as full. Else prove '..UptoSaid'. A law counts once. -/
mutual
def uptoBulk {H : Type} : DataW H → Nat
  | .lit (.string bytes) => bytes.length + 1
  | .lit _ => 1
  | .nil => 1
  | .ptr d => uptoBulk d + 1
  | .slice elems spare => uptoBulkAll elems + uptoBulkAll spare + 1
  | .agg parts => uptoBulkAll parts + 1
  | .iface _ d => uptoBulk d + 1
  | .map entries => uptoBulkEntries entries + 1
  | .held _ => 1
def uptoBulkAll {H : Type} : List (DataW H) → Nat
  | [] => 0
  | d :: r => uptoBulk d + uptoBulkAll r
def uptoBulkEntries {H : Type} : List (Lit × DataW H) → Nat
  | [] => 0
  | x :: r => uptoBulkEntry x + uptoBulkEntries r
def uptoBulkEntry {H : Type} : Lit × DataW H → Nat
  | (.string bytes, d) => bytes.length + uptoBulk d + 1
  | (_, d) => uptoBulk d + 1
 end
def uptoSmall : (H : Type) → List (DataW H) → Bool := fun _ ds => decide (uptoBulkAll ds ≤ 1048576)
def OpenSpec.upto (s : _root_.Go.ChangeSpec) : _root_.Go.OpenSpec := { _root_.Go.OpenSpec.ofChange s with cond := some uptoSmall }

/-- 'inkhornlaw19.MultiDecodes', WHERE WHAT IT READS IS OF BULK AT MOST 1048576: true; the input reads as it did. -/
def multiDecodesUptoRow : OpenClaim := { program := "ytplobpelhcagpaadoor", sum := "1cd4976506d295075f18fb3c2716f1b18d383f654757914a4e4a26dd147b9980", func := "inkhorn/inkhornlaw19.MultiDecodes", spec := "multiDecodes", inPlace := ["internal/bytealg.abigen_runtime_cmpstring", "internal/abi.NoEscape"], unfollowed := true, recurses := true, named := ["unicode/utf8.first", "unicode/utf8.acceptRanges"], apart := false, laid := [("unicode/utf8.acceptRanges", laid_unicode_utf8_acceptRanges), ("unicode/utf8.first", laid_unicode_utf8_first)], narrowed := true }
def MultiDecodesUptoSaid : Prop := multiDecodesUptoRow.holds Tryd.pinned (OpenSpec.upto multiDecodesSpec)

/-- 'inkhornlaw19.MultiCodes', WHERE WHAT IT READS IS OF BULK AT MOST 1048576: true; the input reads as it did. -/
def multiCodesUptoRow : OpenClaim := { program := "ytplobpelhcagpaadoor", sum := "1cd4976506d295075f18fb3c2716f1b18d383f654757914a4e4a26dd147b9980", func := "inkhorn/inkhornlaw19.MultiCodes", spec := "multiCodes", inPlace := ["internal/bytealg.abigen_runtime_cmpstring", "internal/abi.NoEscape"], unfollowed := true, recurses := true, named := ["unicode/utf8.first", "unicode/utf8.acceptRanges"], apart := false, laid := [("unicode/utf8.acceptRanges", laid_unicode_utf8_acceptRanges), ("unicode/utf8.first", laid_unicode_utf8_first)], narrowed := true }
def MultiCodesUptoSaid : Prop := multiCodesUptoRow.holds Tryd.pinned (OpenSpec.upto multiCodesSpec)

/-- 'inkhornlaw19.MultiRest', WHERE WHAT IT READS IS OF BULK AT MOST 1048576: true; the input reads as it did. -/
def multiRestUptoRow : OpenClaim := { program := "ytplobpelhcagpaadoor", sum := "1cd4976506d295075f18fb3c2716f1b18d383f654757914a4e4a26dd147b9980", func := "inkhorn/inkhornlaw19.MultiRest", spec := "multiRest", inPlace := ["internal/bytealg.abigen_runtime_cmpstring", "internal/abi.NoEscape"], unfollowed := true, recurses := true, named := ["unicode/utf8.first", "unicode/utf8.acceptRanges"], apart := false, laid := [("unicode/utf8.acceptRanges", laid_unicode_utf8_acceptRanges), ("unicode/utf8.first", laid_unicode_utf8_first)], narrowed := true }
def MultiRestUptoSaid : Prop := multiRestUptoRow.holds Tryd.pinned (OpenSpec.upto multiRestSpec)

/-- 'inkhornlaw19.MultiAgain', WHERE WHAT IT READS IS OF BULK AT MOST 1048576: true; the input reads as it did. -/
def multiAgainUptoRow : OpenClaim := { program := "ytplobpelhcagpaadoor", sum := "1cd4976506d295075f18fb3c2716f1b18d383f654757914a4e4a26dd147b9980", func := "inkhorn/inkhornlaw19.MultiAgain", spec := "multiAgain", inPlace := ["internal/bytealg.abigen_runtime_cmpstring", "internal/abi.NoEscape"], unfollowed := true, recurses := true, named := ["unicode/utf8.first", "unicode/utf8.acceptRanges"], apart := false, laid := [("unicode/utf8.acceptRanges", laid_unicode_utf8_acceptRanges), ("unicode/utf8.first", laid_unicode_utf8_first)], narrowed := true }
def MultiAgainUptoSaid : Prop := multiAgainUptoRow.holds Tryd.pinned (OpenSpec.upto multiAgainSpec)

/-- 'inkhornlaw19.MultiNil', WHERE WHAT IT READS IS OF BULK AT MOST 1048576: true; the input reads as it did. -/
def multiNilUptoRow : OpenClaim := { program := "ytplobpelhcagpaadoor", sum := "1cd4976506d295075f18fb3c2716f1b18d383f654757914a4e4a26dd147b9980", func := "inkhorn/inkhornlaw19.MultiNil", spec := "multiNil", inPlace := ["internal/bytealg.abigen_runtime_cmpstring", "internal/abi.NoEscape"], unfollowed := true, recurses := true, named := ["unicode/utf8.first", "unicode/utf8.acceptRanges"], apart := false, laid := [("unicode/utf8.acceptRanges", laid_unicode_utf8_acceptRanges), ("unicode/utf8.first", laid_unicode_utf8_first)], narrowed := true }
def MultiNilUptoSaid : Prop := multiNilUptoRow.holds Tryd.pinned (OpenSpec.upto multiNilSpec)

/-- 'inkhornlaw19.MultiSteps', WHERE WHAT IT READS IS OF BULK AT MOST 1048576: true; the input reads as it did. -/
def multiStepsUptoRow : OpenClaim := { program := "ytplobpelhcagpaadoor", sum := "1cd4976506d295075f18fb3c2716f1b18d383f654757914a4e4a26dd147b9980", func := "inkhorn/inkhornlaw19.MultiSteps", spec := "multiSteps", inPlace := ["internal/bytealg.abigen_runtime_cmpstring", "internal/abi.NoEscape"], unfollowed := true, recurses := true, named := ["unicode/utf8.first", "unicode/utf8.acceptRanges"], apart := false, laid := [("unicode/utf8.acceptRanges", laid_unicode_utf8_acceptRanges), ("unicode/utf8.first", laid_unicode_utf8_first)], narrowed := true }
def MultiStepsUptoSaid : Prop := multiStepsUptoRow.holds Tryd.pinned (OpenSpec.upto multiStepsSpec)

end Rows
end Go.Proofs.YtplobpelhcagpaaDoor
