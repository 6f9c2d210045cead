/-
  No cell of these rows narrows 'for every input' (looked for: loops, veiled, ifaces, maps, wideKeys, modest, calm, conditions, laid).
  DERIVED. THE GIVEN ROWS OF THIS SEAT. 6 by the template 'for every input the law returns true; each argument reads behind the call as it read before'; 0 by the template 'total and deterministic' (their statements: YtkpkcimghkmkfaaTotals.lean).
  GIVEN WITH THE SEED: the statements are not yours to turn. If you find one false, say at which input.
  Laid BY PROGRAM, IN A SANDBOX (cutbox-rows.mjs): the forced cells as the released guide's own fill.sh prints them over the translation 72952125e51ec4ca… (all of the seat's roots in one cut). By AI agents, Wed Nov 11 2026. No macro, syntax, notation, axiom, sorry.
-/
import Derived.Test.YtkpkcimghkmkfaaChecked
import GoSem.Claim
import GoSem.ClaimJoined
import GoSem.ClaimMapViews
import Derived.JoinedTies
import Derived.KernelRfl
namespace Go.Proofs.Ytkpkcimghkmkfaa
/- THE CELL 'sum', in the pinned program and in every row, IS THE sha256 OF THE DUMP (.gsa) THAT YtkpkcimghkmkfaaProg.lean LOADS. Nothing in Lean hashes anything: it is a label: what it is worth is what the hold of that sum in a sandbox is worth. -/
noncomputable def Try.pinned : Pinned := { name := "ytkpkcimghkmkfaa", sum := "72952125e51ec4ca605926393ee05ac7b61d137ae681d8f2caa9a7988ba7689d", checked := Try.checked }
namespace Rows
def none {H : Type} : Left H := { results := [], args := [] }

/-- 'inkhornlaw06.TriePlays': WHATEVER THE INPUT: true; the input reads as it did. -/
def triePlaysSpec : ChangeSpec := { name := "triePlays", fn := fun _ => fun
  | [d1, d2] => { results := [.lit (.bool true)], args := [d1, d2] }
  | _ => none }
def triePlaysRow : OpenClaim := { program := "ytkpkcimghkmkfaa", sum := "72952125e51ec4ca605926393ee05ac7b61d137ae681d8f2caa9a7988ba7689d", func := "inkhorn/inkhornlaw06.TriePlays", spec := "triePlays", unfollowed := true, recurses := true, apart := false }
def TriePlaysSaid : Prop := triePlaysRow.holds Try.pinned (OpenSpec.ofChange triePlaysSpec)

/-- ITS FALSE NEIGHBOUR: 'it returns false'. Refute it at one input. -/
def triePlaysWrong : ChangeSpec := { name := "triePlays", fn := fun _ => fun
  | [d1, d2] => { results := [.lit (.bool false)], args := [d1, d2] }
  | _ => none }
def TriePlaysWrongFalsely : Prop := triePlaysRow.holds Try.pinned (OpenSpec.ofChange triePlaysWrong)

/-- 'inkhornlaw06.TrieAgain': WHATEVER THE INPUT: true; the input reads as it did. -/
def trieAgainSpec : ChangeSpec := { name := "trieAgain", fn := fun _ => fun
  | [d1, d2] => { results := [.lit (.bool true)], args := [d1, d2] }
  | _ => none }
def trieAgainRow : OpenClaim := { program := "ytkpkcimghkmkfaa", sum := "72952125e51ec4ca605926393ee05ac7b61d137ae681d8f2caa9a7988ba7689d", func := "inkhorn/inkhornlaw06.TrieAgain", spec := "trieAgain", unfollowed := true, recurses := true, apart := false }
def TrieAgainSaid : Prop := trieAgainRow.holds Try.pinned (OpenSpec.ofChange trieAgainSpec)

/-- ITS FALSE NEIGHBOUR: 'it returns false'. Refute it at one input. -/
def trieAgainWrong : ChangeSpec := { name := "trieAgain", fn := fun _ => fun
  | [d1, d2] => { results := [.lit (.bool false)], args := [d1, d2] }
  | _ => none }
def TrieAgainWrongFalsely : Prop := trieAgainRow.holds Try.pinned (OpenSpec.ofChange trieAgainWrong)

/-- 'inkhornlaw06.TrieLast': WHATEVER THE INPUT: true; the input reads as it did. -/
def trieLastSpec : ChangeSpec := { name := "trieLast", fn := fun _ => fun
  | [d1, d2, d3] => { results := [.lit (.bool true)], args := [d1, d2, d3] }
  | _ => none }
def trieLastRow : OpenClaim := { program := "ytkpkcimghkmkfaa", sum := "72952125e51ec4ca605926393ee05ac7b61d137ae681d8f2caa9a7988ba7689d", func := "inkhorn/inkhornlaw06.TrieLast", spec := "trieLast", unfollowed := true, recurses := true, apart := false }
def TrieLastSaid : Prop := trieLastRow.holds Try.pinned (OpenSpec.ofChange trieLastSpec)

/-- ITS FALSE NEIGHBOUR: 'it returns false'. Refute it at one input. -/
def trieLastWrong : ChangeSpec := { name := "trieLast", fn := fun _ => fun
  | [d1, d2, d3] => { results := [.lit (.bool false)], args := [d1, d2, d3] }
  | _ => none }
def TrieLastWrongFalsely : Prop := trieLastRow.holds Try.pinned (OpenSpec.ofChange trieLastWrong)

/-- 'inkhornlaw06.TrieCopies': WHATEVER THE INPUT: true; the input reads as it did. -/
def trieCopiesSpec : ChangeSpec := { name := "trieCopies", fn := fun _ => fun
  | [d1, d2] => { results := [.lit (.bool true)], args := [d1, d2] }
  | _ => none }
def trieCopiesRow : OpenClaim := { program := "ytkpkcimghkmkfaa", sum := "72952125e51ec4ca605926393ee05ac7b61d137ae681d8f2caa9a7988ba7689d", func := "inkhorn/inkhornlaw06.TrieCopies", spec := "trieCopies", inPlace := ["maps.clone"], unfollowed := true, recurses := true, apart := false }
def TrieCopiesSaid : Prop := trieCopiesRow.holds Try.pinned (OpenSpec.ofChange trieCopiesSpec)

/-- ITS FALSE NEIGHBOUR: 'it returns false'. Refute it at one input. -/
def trieCopiesWrong : ChangeSpec := { name := "trieCopies", fn := fun _ => fun
  | [d1, d2] => { results := [.lit (.bool false)], args := [d1, d2] }
  | _ => none }
def TrieCopiesWrongFalsely : Prop := trieCopiesRow.holds Try.pinned (OpenSpec.ofChange trieCopiesWrong)

/-- 'inkhornlaw06.TrieNil': WHATEVER THE INPUT: true; the input reads as it did. -/
def trieNilSpec : ChangeSpec := { name := "trieNil", fn := fun _ => fun
  | [d1, d2] => { results := [.lit (.bool true)], args := [d1, d2] }
  | _ => none }
def trieNilRow : OpenClaim := { program := "ytkpkcimghkmkfaa", sum := "72952125e51ec4ca605926393ee05ac7b61d137ae681d8f2caa9a7988ba7689d", func := "inkhorn/inkhornlaw06.TrieNil", spec := "trieNil", inPlace := ["maps.clone"], unfollowed := true, recurses := true, apart := false }
def TrieNilSaid : Prop := trieNilRow.holds Try.pinned (OpenSpec.ofChange trieNilSpec)

/-- ITS FALSE NEIGHBOUR: 'it returns false'. Refute it at one input. -/
def trieNilWrong : ChangeSpec := { name := "trieNil", fn := fun _ => fun
  | [d1, d2] => { results := [.lit (.bool false)], args := [d1, d2] }
  | _ => none }
def TrieNilWrongFalsely : Prop := trieNilRow.holds Try.pinned (OpenSpec.ofChange trieNilWrong)

/-- 'inkhornlaw06.TrieParts': WHATEVER THE INPUT: true; the input reads as it did. -/
def triePartsSpec : ChangeSpec := { name := "trieParts", fn := fun _ => fun
  | [d1, d2, d3] => { results := [.lit (.bool true)], args := [d1, d2, d3] }
  | _ => none }
def triePartsRow : OpenClaim := { program := "ytkpkcimghkmkfaa", sum := "72952125e51ec4ca605926393ee05ac7b61d137ae681d8f2caa9a7988ba7689d", func := "inkhorn/inkhornlaw06.TrieParts", spec := "trieParts", inPlace := ["maps.clone"], unfollowed := true, recurses := true, apart := false }
def TriePartsSaid : Prop := triePartsRow.holds Try.pinned (OpenSpec.ofChange triePartsSpec)

/-- ITS FALSE NEIGHBOUR: 'it returns false'. Refute it at one input. -/
def triePartsWrong : ChangeSpec := { name := "trieParts", fn := fun _ => fun
  | [d1, d2, d3] => { results := [.lit (.bool false)], args := [d1, d2, d3] }
  | _ => none }
def TriePartsWrongFalsely : Prop := triePartsRow.holds Try.pinned (OpenSpec.ofChange triePartsWrong)

/- THE SECOND FORM. 'bulk': how many values and letters a reading holds, each counted each time it is reached (what is shared counts as often as it is met; a slice's spare places count too). A statement '..UptoSaid' is the law's where the arguments, and the package variables that the reading takes, are together of bulk at most 1048576: NARROWER than '..Said'. Prove '..Said' where nothing that the law and all that it calls make is longer than what came in: it says more and counts as full. Else prove '..UptoSaid'. A law counts once. -/
mutual
def uptoBulk {H : Type} : DataW H → Nat
  | .lit (.string bytes) => bytes.length + 1
  | .lit _ => 1
  | .nil => 1
  | .ptr d => uptoBulk d + 1
  | .slice elems spare => uptoBulkAll elems + uptoBulkAll spare + 1
  | .agg parts => uptoBulkAll parts + 1
  | .iface _ d => uptoBulk d + 1
  | .map entries => uptoBulkEntries entries + 1
  | .held _ => 1
def uptoBulkAll {H : Type} : List (DataW H) → Nat
  | [] => 0
  | d :: r => uptoBulk d + uptoBulkAll r
def uptoBulkEntries {H : Type} : List (Lit × DataW H) → Nat
  | [] => 0
  | x :: r => uptoBulkEntry x + uptoBulkEntries r
def uptoBulkEntry {H : Type} : Lit × DataW H → Nat
  | (.string bytes, d) => bytes.length + uptoBulk d + 1
  | (_, d) => uptoBulk d + 1
 end
def uptoSmall : (H : Type) → List (DataW H) → Bool := fun _ ds => decide (uptoBulkAll ds ≤ 1048576)
def OpenSpec.upto (s : _root_.Go.ChangeSpec) : _root_.Go.OpenSpec := { _root_.Go.OpenSpec.ofChange s with cond := some uptoSmall }

/-- 'inkhornlaw06.TriePlays', WHERE WHAT IT READS IS OF BULK AT MOST 1048576: true; the input reads as it did. -/
def triePlaysUptoRow : OpenClaim := { program := "ytkpkcimghkmkfaa", sum := "72952125e51ec4ca605926393ee05ac7b61d137ae681d8f2caa9a7988ba7689d", func := "inkhorn/inkhornlaw06.TriePlays", spec := "triePlays", unfollowed := true, recurses := true, apart := false, narrowed := true }
def TriePlaysUptoSaid : Prop := triePlaysUptoRow.holds Try.pinned (OpenSpec.upto triePlaysSpec)

/-- 'inkhornlaw06.TrieAgain', WHERE WHAT IT READS IS OF BULK AT MOST 1048576: true; the input reads as it did. -/
def trieAgainUptoRow : OpenClaim := { program := "ytkpkcimghkmkfaa", sum := "72952125e51ec4ca605926393ee05ac7b61d137ae681d8f2caa9a7988ba7689d", func := "inkhorn/inkhornlaw06.TrieAgain", spec := "trieAgain", unfollowed := true, recurses := true, apart := false, narrowed := true }
def TrieAgainUptoSaid : Prop := trieAgainUptoRow.holds Try.pinned (OpenSpec.upto trieAgainSpec)

/-- 'inkhornlaw06.TrieLast', WHERE WHAT IT READS IS OF BULK AT MOST 1048576: true; the input reads as it did. -/
def trieLastUptoRow : OpenClaim := { program := "ytkpkcimghkmkfaa", sum := "72952125e51ec4ca605926393ee05ac7b61d137ae681d8f2caa9a7988ba7689d", func := "inkhorn/inkhornlaw06.TrieLast", spec := "trieLast", unfollowed := true, recurses := true, apart := false, narrowed := true }
def TrieLastUptoSaid : Prop := trieLastUptoRow.holds Try.pinned (OpenSpec.upto trieLastSpec)

/-- 'inkhornlaw06.TrieCopies', WHERE WHAT IT READS IS OF BULK AT MOST 1048576: true; the input reads as it did. -/
def trieCopiesUptoRow : OpenClaim := { program := "ytkpkcimghkmkfaa", sum := "72952125e51ec4ca605926393ee05ac7b61d137ae681d8f2caa9a7988ba7689d", func := "inkhorn/inkhornlaw06.TrieCopies", spec := "trieCopies", inPlace := ["maps.clone"], unfollowed := true, recurses := true, apart := false, narrowed := true }
def TrieCopiesUptoSaid : Prop := trieCopiesUptoRow.holds Try.pinned (OpenSpec.upto trieCopiesSpec)

/-- 'inkhornlaw06.TrieNil', WHERE WHAT IT READS IS OF BULK AT MOST 1048576: true; the input reads as it did. -/
def trieNilUptoRow : OpenClaim := { program := "ytkpkcimghkmkfaa", sum := "72952125e51ec4ca605926393ee05ac7b61d137ae681d8f2caa9a7988ba7689d", func := "inkhorn/inkhornlaw06.TrieNil", spec := "trieNil", inPlace := ["maps.clone"], unfollowed := true, recurses := true, apart := false, narrowed := true }
def TrieNilUptoSaid : Prop := trieNilUptoRow.holds Try.pinned (OpenSpec.upto trieNilSpec)

/-- 'inkhornlaw06.TrieParts', WHERE WHAT IT READS IS OF BULK AT MOST 1048576: true; the input reads as it did. -/
def triePartsUptoRow : OpenClaim := { program := "ytkpkcimghkmkfaa", sum := "72952125e51ec4ca605926393ee05ac7b61d137ae681d8f2caa9a7988ba7689d", func := "inkhorn/inkhornlaw06.TrieParts", spec := "trieParts", inPlace := ["maps.clone"], unfollowed := true, recurses := true, apart := false, narrowed := true }
def TriePartsUptoSaid : Prop := triePartsUptoRow.holds Try.pinned (OpenSpec.upto triePartsSpec)

end Rows
end Go.Proofs.Ytkpkcimghkmkfaa
