/-
  NARROWER THAN 'FOR EVERY INPUT', by the rows' own cells (each row's printed sentence says how): TermEqual: loops · TermBent: loops · TermBinds: loops · ShiftSwaps: loops · ShiftKids: loops · ShiftExact: loops · ShiftTwice: loops · ShiftScopes: loops · TermExact: loops · TermScope: loops · TermParts: loops · ShiftCounts: loops.
  DERIVED. THE GIVEN ROWS OF THIS SEAT. 14 by the template 'for every input the law returns true; each argument reads behind the call as it read before'; 0 by the template 'total and deterministic' (their statements: YtmnjbnkenfefaaaTotals.lean).
  GIVEN WITH THE SEED: the statements are not yours to turn. If you find one false, say at which input.
  Laid BY PROGRAM, IN A SANDBOX (cutbox-rows.mjs): the forced cells as the released guide's own fill.sh prints them over the translation 7ac96d0d2cc5d6e8… (all of the seat's roots in one cut). By AI agents, Wed Nov 11 2026. No macro, syntax, notation, axiom, sorry.
-/
import Derived.Test.YtmnjbnkenfefaaaChecked
import GoSem.Claim
import GoSem.ClaimJoined
import GoSem.ClaimMapViews
import Derived.JoinedTies
import Derived.KernelRfl
namespace Go.Proofs.Ytmnjbnkenfefaaa
/- THE CELL 'sum', in the pinned program and in every row, IS THE sha256 OF THE DUMP (.gsa) THAT YtmnjbnkenfefaaaProg.lean LOADS. Nothing in Lean hashes anything: it is a label: what it is worth is what the hold of that sum in a sandbox is worth. -/
noncomputable def Try.pinned : Pinned := { name := "ytmnjbnkenfefaaa", sum := "7ac96d0d2cc5d6e808928fb2a786d58bd5e20e56c2ed59118171244951fe24a7", checked := Try.checked }
namespace Rows
def none {H : Type} : Left H := { results := [], args := [] }

/-- 'porismlaw02.TermEqual': WHATEVER THE INPUT: true; the input reads as it did. -/
def termEqualSpec : ChangeSpec := { name := "termEqual", fn := fun _ => fun
  | [d1, d2] => { results := [.lit (.bool true)], args := [d1, d2] }
  | _ => none }
def termEqualRow : OpenClaim := { program := "ytmnjbnkenfefaaa", sum := "7ac96d0d2cc5d6e808928fb2a786d58bd5e20e56c2ed59118171244951fe24a7", func := "porism/porismlaw02.TermEqual", spec := "termEqual", unfollowed := true, recurses := true, loops := true, apart := false }
def TermEqualSaid : Prop := termEqualRow.holds Try.pinned (OpenSpec.ofChange termEqualSpec)

/-- ITS FALSE NEIGHBOUR: 'it returns false'. Refute it at one input. -/
def termEqualWrong : ChangeSpec := { name := "termEqual", fn := fun _ => fun
  | [d1, d2] => { results := [.lit (.bool false)], args := [d1, d2] }
  | _ => none }
def TermEqualWrongFalsely : Prop := termEqualRow.holds Try.pinned (OpenSpec.ofChange termEqualWrong)

/-- 'porismlaw02.TermEnds': WHATEVER THE INPUT: true; the input reads as it did. -/
def termEndsSpec : ChangeSpec := { name := "termEnds", fn := fun _ => fun
  | [d1, d2] => { results := [.lit (.bool true)], args := [d1, d2] }
  | _ => none }
def termEndsRow : OpenClaim := { program := "ytmnjbnkenfefaaa", sum := "7ac96d0d2cc5d6e808928fb2a786d58bd5e20e56c2ed59118171244951fe24a7", func := "porism/porismlaw02.TermEnds", spec := "termEnds", unfollowed := true, recurses := true, apart := false }
def TermEndsSaid : Prop := termEndsRow.holds Try.pinned (OpenSpec.ofChange termEndsSpec)

/-- ITS FALSE NEIGHBOUR: 'it returns false'. Refute it at one input. -/
def termEndsWrong : ChangeSpec := { name := "termEnds", fn := fun _ => fun
  | [d1, d2] => { results := [.lit (.bool false)], args := [d1, d2] }
  | _ => none }
def TermEndsWrongFalsely : Prop := termEndsRow.holds Try.pinned (OpenSpec.ofChange termEndsWrong)

/-- 'porismlaw02.TermBent': WHATEVER THE INPUT: true; the input reads as it did. -/
def termBentSpec : ChangeSpec := { name := "termBent", fn := fun _ => fun
  | [d1, d2] => { results := [.lit (.bool true)], args := [d1, d2] }
  | _ => none }
def termBentRow : OpenClaim := { program := "ytmnjbnkenfefaaa", sum := "7ac96d0d2cc5d6e808928fb2a786d58bd5e20e56c2ed59118171244951fe24a7", func := "porism/porismlaw02.TermBent", spec := "termBent", unfollowed := true, recurses := true, loops := true, apart := false }
def TermBentSaid : Prop := termBentRow.holds Try.pinned (OpenSpec.ofChange termBentSpec)

/-- ITS FALSE NEIGHBOUR: 'it returns false'. Refute it at one input. -/
def termBentWrong : ChangeSpec := { name := "termBent", fn := fun _ => fun
  | [d1, d2] => { results := [.lit (.bool false)], args := [d1, d2] }
  | _ => none }
def TermBentWrongFalsely : Prop := termBentRow.holds Try.pinned (OpenSpec.ofChange termBentWrong)

/-- 'porismlaw02.TermBinds': WHATEVER THE INPUT: true; the input reads as it did. -/
def termBindsSpec : ChangeSpec := { name := "termBinds", fn := fun _ => fun
  | [d1, d2, d3, d4] => { results := [.lit (.bool true)], args := [d1, d2, d3, d4] }
  | _ => none }
def termBindsRow : OpenClaim := { program := "ytmnjbnkenfefaaa", sum := "7ac96d0d2cc5d6e808928fb2a786d58bd5e20e56c2ed59118171244951fe24a7", func := "porism/porismlaw02.TermBinds", spec := "termBinds", unfollowed := true, recurses := true, loops := true, apart := false }
def TermBindsSaid : Prop := termBindsRow.holds Try.pinned (OpenSpec.ofChange termBindsSpec)

/-- ITS FALSE NEIGHBOUR: 'it returns false'. Refute it at one input. -/
def termBindsWrong : ChangeSpec := { name := "termBinds", fn := fun _ => fun
  | [d1, d2, d3, d4] => { results := [.lit (.bool false)], args := [d1, d2, d3, d4] }
  | _ => none }
def TermBindsWrongFalsely : Prop := termBindsRow.holds Try.pinned (OpenSpec.ofChange termBindsWrong)

/-- 'porismlaw25.LibExact': WHATEVER THE INPUT: true; the input reads as it did. -/
def libExactSpec : ChangeSpec := { name := "libExact", fn := fun _ => fun
  | [d1, d2, d3, d4] => { results := [.lit (.bool true)], args := [d1, d2, d3, d4] }
  | _ => none }
def libExactRow : OpenClaim := { program := "ytmnjbnkenfefaaa", sum := "7ac96d0d2cc5d6e808928fb2a786d58bd5e20e56c2ed59118171244951fe24a7", func := "porism/porismlaw25.LibExact", spec := "libExact", unfollowed := true, recurses := true, apart := false }
def LibExactSaid : Prop := libExactRow.holds Try.pinned (OpenSpec.ofChange libExactSpec)

/-- ITS FALSE NEIGHBOUR: 'it returns false'. Refute it at one input. -/
def libExactWrong : ChangeSpec := { name := "libExact", fn := fun _ => fun
  | [d1, d2, d3, d4] => { results := [.lit (.bool false)], args := [d1, d2, d3, d4] }
  | _ => none }
def LibExactWrongFalsely : Prop := libExactRow.holds Try.pinned (OpenSpec.ofChange libExactWrong)

/-- 'porismlaw04.ShiftSwaps': WHATEVER THE INPUT: true; the input reads as it did. -/
def shiftSwapsSpec : ChangeSpec := { name := "shiftSwaps", fn := fun _ => fun
  | [d1, d2, d3, d4, d5] => { results := [.lit (.bool true)], args := [d1, d2, d3, d4, d5] }
  | _ => none }
def shiftSwapsRow : OpenClaim := { program := "ytmnjbnkenfefaaa", sum := "7ac96d0d2cc5d6e808928fb2a786d58bd5e20e56c2ed59118171244951fe24a7", func := "porism/porismlaw04.ShiftSwaps", spec := "shiftSwaps", unfollowed := true, recurses := true, loops := true, apart := false }
def ShiftSwapsSaid : Prop := shiftSwapsRow.holds Try.pinned (OpenSpec.ofChange shiftSwapsSpec)

/-- ITS FALSE NEIGHBOUR: 'it returns false'. Refute it at one input. -/
def shiftSwapsWrong : ChangeSpec := { name := "shiftSwaps", fn := fun _ => fun
  | [d1, d2, d3, d4, d5] => { results := [.lit (.bool false)], args := [d1, d2, d3, d4, d5] }
  | _ => none }
def ShiftSwapsWrongFalsely : Prop := shiftSwapsRow.holds Try.pinned (OpenSpec.ofChange shiftSwapsWrong)

/-- 'porismlaw04.ShiftKids': WHATEVER THE INPUT: true; the input reads as it did. -/
def shiftKidsSpec : ChangeSpec := { name := "shiftKids", fn := fun _ => fun
  | [d1, d2, d3] => { results := [.lit (.bool true)], args := [d1, d2, d3] }
  | _ => none }
def shiftKidsRow : OpenClaim := { program := "ytmnjbnkenfefaaa", sum := "7ac96d0d2cc5d6e808928fb2a786d58bd5e20e56c2ed59118171244951fe24a7", func := "porism/porismlaw04.ShiftKids", spec := "shiftKids", unfollowed := true, recurses := true, loops := true, apart := false }
def ShiftKidsSaid : Prop := shiftKidsRow.holds Try.pinned (OpenSpec.ofChange shiftKidsSpec)

/-- ITS FALSE NEIGHBOUR: 'it returns false'. Refute it at one input. -/
def shiftKidsWrong : ChangeSpec := { name := "shiftKids", fn := fun _ => fun
  | [d1, d2, d3] => { results := [.lit (.bool false)], args := [d1, d2, d3] }
  | _ => none }
def ShiftKidsWrongFalsely : Prop := shiftKidsRow.holds Try.pinned (OpenSpec.ofChange shiftKidsWrong)

/-- 'porismlaw04.ShiftExact': WHATEVER THE INPUT: true; the input reads as it did. -/
def shiftExactSpec : ChangeSpec := { name := "shiftExact", fn := fun _ => fun
  | [d1, d2, d3, d4] => { results := [.lit (.bool true)], args := [d1, d2, d3, d4] }
  | _ => none }
def shiftExactRow : OpenClaim := { program := "ytmnjbnkenfefaaa", sum := "7ac96d0d2cc5d6e808928fb2a786d58bd5e20e56c2ed59118171244951fe24a7", func := "porism/porismlaw04.ShiftExact", spec := "shiftExact", unfollowed := true, recurses := true, loops := true, apart := false }
def ShiftExactSaid : Prop := shiftExactRow.holds Try.pinned (OpenSpec.ofChange shiftExactSpec)

/-- ITS FALSE NEIGHBOUR: 'it returns false'. Refute it at one input. -/
def shiftExactWrong : ChangeSpec := { name := "shiftExact", fn := fun _ => fun
  | [d1, d2, d3, d4] => { results := [.lit (.bool false)], args := [d1, d2, d3, d4] }
  | _ => none }
def ShiftExactWrongFalsely : Prop := shiftExactRow.holds Try.pinned (OpenSpec.ofChange shiftExactWrong)

/-- 'porismlaw04.ShiftTwice': WHATEVER THE INPUT: true; the input reads as it did. -/
def shiftTwiceSpec : ChangeSpec := { name := "shiftTwice", fn := fun _ => fun
  | [d1, d2, d3, d4] => { results := [.lit (.bool true)], args := [d1, d2, d3, d4] }
  | _ => none }
def shiftTwiceRow : OpenClaim := { program := "ytmnjbnkenfefaaa", sum := "7ac96d0d2cc5d6e808928fb2a786d58bd5e20e56c2ed59118171244951fe24a7", func := "porism/porismlaw04.ShiftTwice", spec := "shiftTwice", unfollowed := true, recurses := true, loops := true, apart := false }
def ShiftTwiceSaid : Prop := shiftTwiceRow.holds Try.pinned (OpenSpec.ofChange shiftTwiceSpec)

/-- ITS FALSE NEIGHBOUR: 'it returns false'. Refute it at one input. -/
def shiftTwiceWrong : ChangeSpec := { name := "shiftTwice", fn := fun _ => fun
  | [d1, d2, d3, d4] => { results := [.lit (.bool false)], args := [d1, d2, d3, d4] }
  | _ => none }
def ShiftTwiceWrongFalsely : Prop := shiftTwiceRow.holds Try.pinned (OpenSpec.ofChange shiftTwiceWrong)

/-- 'porismlaw04.ShiftScopes': WHATEVER THE INPUT: true; the input reads as it did. -/
def shiftScopesSpec : ChangeSpec := { name := "shiftScopes", fn := fun _ => fun
  | [d1, d2, d3, d4] => { results := [.lit (.bool true)], args := [d1, d2, d3, d4] }
  | _ => none }
def shiftScopesRow : OpenClaim := { program := "ytmnjbnkenfefaaa", sum := "7ac96d0d2cc5d6e808928fb2a786d58bd5e20e56c2ed59118171244951fe24a7", func := "porism/porismlaw04.ShiftScopes", spec := "shiftScopes", unfollowed := true, recurses := true, loops := true, apart := false }
def ShiftScopesSaid : Prop := shiftScopesRow.holds Try.pinned (OpenSpec.ofChange shiftScopesSpec)

/-- ITS FALSE NEIGHBOUR: 'it returns false'. Refute it at one input. -/
def shiftScopesWrong : ChangeSpec := { name := "shiftScopes", fn := fun _ => fun
  | [d1, d2, d3, d4] => { results := [.lit (.bool false)], args := [d1, d2, d3, d4] }
  | _ => none }
def ShiftScopesWrongFalsely : Prop := shiftScopesRow.holds Try.pinned (OpenSpec.ofChange shiftScopesWrong)

/-- 'porismlaw02.TermExact': WHATEVER THE INPUT: true; the input reads as it did. -/
def termExactSpec : ChangeSpec := { name := "termExact", fn := fun _ => fun
  | [d1, d2, d3, d4] => { results := [.lit (.bool true)], args := [d1, d2, d3, d4] }
  | _ => none }
def termExactRow : OpenClaim := { program := "ytmnjbnkenfefaaa", sum := "7ac96d0d2cc5d6e808928fb2a786d58bd5e20e56c2ed59118171244951fe24a7", func := "porism/porismlaw02.TermExact", spec := "termExact", unfollowed := true, recurses := true, loops := true, apart := false }
def TermExactSaid : Prop := termExactRow.holds Try.pinned (OpenSpec.ofChange termExactSpec)

/-- ITS FALSE NEIGHBOUR: 'it returns false'. Refute it at one input. -/
def termExactWrong : ChangeSpec := { name := "termExact", fn := fun _ => fun
  | [d1, d2, d3, d4] => { results := [.lit (.bool false)], args := [d1, d2, d3, d4] }
  | _ => none }
def TermExactWrongFalsely : Prop := termExactRow.holds Try.pinned (OpenSpec.ofChange termExactWrong)

/-- 'porismlaw02.TermScope': WHATEVER THE INPUT: true; the input reads as it did. -/
def termScopeSpec : ChangeSpec := { name := "termScope", fn := fun _ => fun
  | [d1, d2, d3, d4] => { results := [.lit (.bool true)], args := [d1, d2, d3, d4] }
  | _ => none }
def termScopeRow : OpenClaim := { program := "ytmnjbnkenfefaaa", sum := "7ac96d0d2cc5d6e808928fb2a786d58bd5e20e56c2ed59118171244951fe24a7", func := "porism/porismlaw02.TermScope", spec := "termScope", unfollowed := true, recurses := true, loops := true, apart := false }
def TermScopeSaid : Prop := termScopeRow.holds Try.pinned (OpenSpec.ofChange termScopeSpec)

/-- ITS FALSE NEIGHBOUR: 'it returns false'. Refute it at one input. -/
def termScopeWrong : ChangeSpec := { name := "termScope", fn := fun _ => fun
  | [d1, d2, d3, d4] => { results := [.lit (.bool false)], args := [d1, d2, d3, d4] }
  | _ => none }
def TermScopeWrongFalsely : Prop := termScopeRow.holds Try.pinned (OpenSpec.ofChange termScopeWrong)

/-- 'porismlaw02.TermParts': WHATEVER THE INPUT: true; the input reads as it did. -/
def termPartsSpec : ChangeSpec := { name := "termParts", fn := fun _ => fun
  | [d] => { results := [.lit (.bool true)], args := [d] }
  | _ => none }
def termPartsRow : OpenClaim := { program := "ytmnjbnkenfefaaa", sum := "7ac96d0d2cc5d6e808928fb2a786d58bd5e20e56c2ed59118171244951fe24a7", func := "porism/porismlaw02.TermParts", spec := "termParts", unfollowed := true, recurses := true, loops := true, apart := false }
def TermPartsSaid : Prop := termPartsRow.holds Try.pinned (OpenSpec.ofChange termPartsSpec)

/-- ITS FALSE NEIGHBOUR: 'it returns false'. Refute it at one input. -/
def termPartsWrong : ChangeSpec := { name := "termParts", fn := fun _ => fun
  | [d] => { results := [.lit (.bool false)], args := [d] }
  | _ => none }
def TermPartsWrongFalsely : Prop := termPartsRow.holds Try.pinned (OpenSpec.ofChange termPartsWrong)

/-- 'porismlaw04.ShiftCounts': WHATEVER THE INPUT: true; the input reads as it did. -/
def shiftCountsSpec : ChangeSpec := { name := "shiftCounts", fn := fun _ => fun
  | [d1, d2, d3, d4] => { results := [.lit (.bool true)], args := [d1, d2, d3, d4] }
  | _ => none }
def shiftCountsRow : OpenClaim := { program := "ytmnjbnkenfefaaa", sum := "7ac96d0d2cc5d6e808928fb2a786d58bd5e20e56c2ed59118171244951fe24a7", func := "porism/porismlaw04.ShiftCounts", spec := "shiftCounts", unfollowed := true, recurses := true, loops := true, apart := false }
def ShiftCountsSaid : Prop := shiftCountsRow.holds Try.pinned (OpenSpec.ofChange shiftCountsSpec)

/-- ITS FALSE NEIGHBOUR: 'it returns false'. Refute it at one input. -/
def shiftCountsWrong : ChangeSpec := { name := "shiftCounts", fn := fun _ => fun
  | [d1, d2, d3, d4] => { results := [.lit (.bool false)], args := [d1, d2, d3, d4] }
  | _ => none }
def ShiftCountsWrongFalsely : Prop := shiftCountsRow.holds Try.pinned (OpenSpec.ofChange shiftCountsWrong)

/- THE SECOND FORM. 'bulk': how many values and letters a reading holds, each counted each time it is reached (what is shared counts as often as it is met; a slice's spare places count too). A statement '..UptoSaid' is the law's where the arguments, and the package variables that the reading takes, are together of bulk at most 1048576: NARROWER than '..Said'. Prove '..Said' where nothing that the law and all that it calls make is longer than what came in: it says more and counts as full. Else prove '..UptoSaid'. A law counts once. -/
mutual
def uptoBulk {H : Type} : DataW H → Nat
  | .lit (.string bytes) => bytes.length + 1
  | .lit _ => 1
  | .nil => 1
  | .ptr d => uptoBulk d + 1
  | .slice elems spare => uptoBulkAll elems + uptoBulkAll spare + 1
  | .agg parts => uptoBulkAll parts + 1
  | .iface _ d => uptoBulk d + 1
  | .map entries => uptoBulkEntries entries + 1
  | .held _ => 1
def uptoBulkAll {H : Type} : List (DataW H) → Nat
  | [] => 0
  | d :: r => uptoBulk d + uptoBulkAll r
def uptoBulkEntries {H : Type} : List (Lit × DataW H) → Nat
  | [] => 0
  | x :: r => uptoBulkEntry x + uptoBulkEntries r
def uptoBulkEntry {H : Type} : Lit × DataW H → Nat
  | (.string bytes, d) => bytes.length + uptoBulk d + 1
  | (_, d) => uptoBulk d + 1
 end
def uptoSmall : (H : Type) → List (DataW H) → Bool := fun _ ds => decide (uptoBulkAll ds ≤ 1048576)
def OpenSpec.upto (s : _root_.Go.ChangeSpec) : _root_.Go.OpenSpec := { _root_.Go.OpenSpec.ofChange s with cond := some uptoSmall }

/-- 'porismlaw02.TermEqual', WHERE WHAT IT READS IS OF BULK AT MOST 1048576: true; the input reads as it did. -/
def termEqualUptoRow : OpenClaim := { program := "ytmnjbnkenfefaaa", sum := "7ac96d0d2cc5d6e808928fb2a786d58bd5e20e56c2ed59118171244951fe24a7", func := "porism/porismlaw02.TermEqual", spec := "termEqual", unfollowed := true, recurses := true, loops := true, apart := false, narrowed := true }
def TermEqualUptoSaid : Prop := termEqualUptoRow.holds Try.pinned (OpenSpec.upto termEqualSpec)

/-- 'porismlaw02.TermEnds', WHERE WHAT IT READS IS OF BULK AT MOST 1048576: true; the input reads as it did. -/
def termEndsUptoRow : OpenClaim := { program := "ytmnjbnkenfefaaa", sum := "7ac96d0d2cc5d6e808928fb2a786d58bd5e20e56c2ed59118171244951fe24a7", func := "porism/porismlaw02.TermEnds", spec := "termEnds", unfollowed := true, recurses := true, apart := false, narrowed := true }
def TermEndsUptoSaid : Prop := termEndsUptoRow.holds Try.pinned (OpenSpec.upto termEndsSpec)

/-- 'porismlaw02.TermBent', WHERE WHAT IT READS IS OF BULK AT MOST 1048576: true; the input reads as it did. -/
def termBentUptoRow : OpenClaim := { program := "ytmnjbnkenfefaaa", sum := "7ac96d0d2cc5d6e808928fb2a786d58bd5e20e56c2ed59118171244951fe24a7", func := "porism/porismlaw02.TermBent", spec := "termBent", unfollowed := true, recurses := true, loops := true, apart := false, narrowed := true }
def TermBentUptoSaid : Prop := termBentUptoRow.holds Try.pinned (OpenSpec.upto termBentSpec)

/-- 'porismlaw02.TermBinds', WHERE WHAT IT READS IS OF BULK AT MOST 1048576: true; the input reads as it did. -/
def termBindsUptoRow : OpenClaim := { program := "ytmnjbnkenfefaaa", sum := "7ac96d0d2cc5d6e808928fb2a786d58bd5e20e56c2ed59118171244951fe24a7", func := "porism/porismlaw02.TermBinds", spec := "termBinds", unfollowed := true, recurses := true, loops := true, apart := false, narrowed := true }
def TermBindsUptoSaid : Prop := termBindsUptoRow.holds Try.pinned (OpenSpec.upto termBindsSpec)

/-- 'porismlaw25.LibExact', WHERE WHAT IT READS IS OF BULK AT MOST 1048576: true; the input reads as it did. -/
def libExactUptoRow : OpenClaim := { program := "ytmnjbnkenfefaaa", sum := "7ac96d0d2cc5d6e808928fb2a786d58bd5e20e56c2ed59118171244951fe24a7", func := "porism/porismlaw25.LibExact", spec := "libExact", unfollowed := true, recurses := true, apart := false, narrowed := true }
def LibExactUptoSaid : Prop := libExactUptoRow.holds Try.pinned (OpenSpec.upto libExactSpec)

/-- 'porismlaw04.ShiftSwaps', WHERE WHAT IT READS IS OF BULK AT MOST 1048576: true; the input reads as it did. -/
def shiftSwapsUptoRow : OpenClaim := { program := "ytmnjbnkenfefaaa", sum := "7ac96d0d2cc5d6e808928fb2a786d58bd5e20e56c2ed59118171244951fe24a7", func := "porism/porismlaw04.ShiftSwaps", spec := "shiftSwaps", unfollowed := true, recurses := true, loops := true, apart := false, narrowed := true }
def ShiftSwapsUptoSaid : Prop := shiftSwapsUptoRow.holds Try.pinned (OpenSpec.upto shiftSwapsSpec)

/-- 'porismlaw04.ShiftKids', WHERE WHAT IT READS IS OF BULK AT MOST 1048576: true; the input reads as it did. -/
def shiftKidsUptoRow : OpenClaim := { program := "ytmnjbnkenfefaaa", sum := "7ac96d0d2cc5d6e808928fb2a786d58bd5e20e56c2ed59118171244951fe24a7", func := "porism/porismlaw04.ShiftKids", spec := "shiftKids", unfollowed := true, recurses := true, loops := true, apart := false, narrowed := true }
def ShiftKidsUptoSaid : Prop := shiftKidsUptoRow.holds Try.pinned (OpenSpec.upto shiftKidsSpec)

/-- 'porismlaw04.ShiftExact', WHERE WHAT IT READS IS OF BULK AT MOST 1048576: true; the input reads as it did. -/
def shiftExactUptoRow : OpenClaim := { program := "ytmnjbnkenfefaaa", sum := "7ac96d0d2cc5d6e808928fb2a786d58bd5e20e56c2ed59118171244951fe24a7", func := "porism/porismlaw04.ShiftExact", spec := "shiftExact", unfollowed := true, recurses := true, loops := true, apart := false, narrowed := true }
def ShiftExactUptoSaid : Prop := shiftExactUptoRow.holds Try.pinned (OpenSpec.upto shiftExactSpec)

/-- 'porismlaw04.ShiftTwice', WHERE WHAT IT READS IS OF BULK AT MOST 1048576: true; the input reads as it did. -/
def shiftTwiceUptoRow : OpenClaim := { program := "ytmnjbnkenfefaaa", sum := "7ac96d0d2cc5d6e808928fb2a786d58bd5e20e56c2ed59118171244951fe24a7", func := "porism/porismlaw04.ShiftTwice", spec := "shiftTwice", unfollowed := true, recurses := true, loops := true, apart := false, narrowed := true }
def ShiftTwiceUptoSaid : Prop := shiftTwiceUptoRow.holds Try.pinned (OpenSpec.upto shiftTwiceSpec)

/-- 'porismlaw04.ShiftScopes', WHERE WHAT IT READS IS OF BULK AT MOST 1048576: true; the input reads as it did. -/
def shiftScopesUptoRow : OpenClaim := { program := "ytmnjbnkenfefaaa", sum := "7ac96d0d2cc5d6e808928fb2a786d58bd5e20e56c2ed59118171244951fe24a7", func := "porism/porismlaw04.ShiftScopes", spec := "shiftScopes", unfollowed := true, recurses := true, loops := true, apart := false, narrowed := true }
def ShiftScopesUptoSaid : Prop := shiftScopesUptoRow.holds Try.pinned (OpenSpec.upto shiftScopesSpec)

/-- 'porismlaw02.TermExact', WHERE WHAT IT READS IS OF BULK AT MOST 1048576: true; the input reads as it did. -/
def termExactUptoRow : OpenClaim := { program := "ytmnjbnkenfefaaa", sum := "7ac96d0d2cc5d6e808928fb2a786d58bd5e20e56c2ed59118171244951fe24a7", func := "porism/porismlaw02.TermExact", spec := "termExact", unfollowed := true, recurses := true, loops := true, apart := false, narrowed := true }
def TermExactUptoSaid : Prop := termExactUptoRow.holds Try.pinned (OpenSpec.upto termExactSpec)

/-- 'porismlaw02.TermScope', WHERE WHAT IT READS IS OF BULK AT MOST 1048576: true; the input reads as it did. -/
def termScopeUptoRow : OpenClaim := { program := "ytmnjbnkenfefaaa", sum := "7ac96d0d2cc5d6e808928fb2a786d58bd5e20e56c2ed59118171244951fe24a7", func := "porism/porismlaw02.TermScope", spec := "termScope", unfollowed := true, recurses := true, loops := true, apart := false, narrowed := true }
def TermScopeUptoSaid : Prop := termScopeUptoRow.holds Try.pinned (OpenSpec.upto termScopeSpec)

/-- 'porismlaw02.TermParts', WHERE WHAT IT READS IS OF BULK AT MOST 1048576: true; the input reads as it did. -/
def termPartsUptoRow : OpenClaim := { program := "ytmnjbnkenfefaaa", sum := "7ac96d0d2cc5d6e808928fb2a786d58bd5e20e56c2ed59118171244951fe24a7", func := "porism/porismlaw02.TermParts", spec := "termParts", unfollowed := true, recurses := true, loops := true, apart := false, narrowed := true }
def TermPartsUptoSaid : Prop := termPartsUptoRow.holds Try.pinned (OpenSpec.upto termPartsSpec)

/-- 'porismlaw04.ShiftCounts', WHERE WHAT IT READS IS OF BULK AT MOST 1048576: true; the input reads as it did. -/
def shiftCountsUptoRow : OpenClaim := { program := "ytmnjbnkenfefaaa", sum := "7ac96d0d2cc5d6e808928fb2a786d58bd5e20e56c2ed59118171244951fe24a7", func := "porism/porismlaw04.ShiftCounts", spec := "shiftCounts", unfollowed := true, recurses := true, loops := true, apart := false, narrowed := true }
def ShiftCountsUptoSaid : Prop := shiftCountsUptoRow.holds Try.pinned (OpenSpec.upto shiftCountsSpec)

end Rows
end Go.Proofs.Ytmnjbnkenfefaaa
