/-
  NARROWER THAN 'FOR EVERY INPUT', by the rows' own cells (each row's printed sentence says how): DepsUnion: loops · DepsExact: loops · DepsNeeds: loops · DepsRows: loops · DepsLast: loops.
  DERIVED. THE GIVEN ROWS OF THIS SEAT. 9 by the template 'for every input the law returns true; each argument reads behind the call as it read before'; 0 by the template 'total and deterministic' (their statements: YtfgjannlepahgaaGreatTotals.lean).
  GIVEN WITH THE SEED: the statements are not yours to turn. If you find one false, say at which input.
  Laid BY PROGRAM, IN A SANDBOX (cutbox-rows.mjs): the forced cells as the released guide's own fill.sh prints them over the translation 148150d559846df1… (all of the seat's roots in one cut). By AI agents, Wed Nov 11 2026. No macro, syntax, notation, axiom, sorry.
-/
import Derived.Test.YtfgjannlepahgaaGreatChecked
import GoSem.Claim
import GoSem.ClaimJoined
import GoSem.ClaimMapViews
import Derived.JoinedTies
import Derived.KernelRfl
namespace Go.Proofs.YtfgjannlepahgaaGreat
/- THE CELL 'sum', in the pinned program and in every row, IS THE sha256 OF THE DUMP (.gsa) THAT YtfgjannlepahgaaGreatProg.lean LOADS. Nothing in Lean hashes anything: it is a label: what it is worth is what the hold of that sum in a sandbox is worth. -/
noncomputable def Tryz.pinned : Pinned := { name := "ytfgjannlepahgaagreat", sum := "148150d559846df1b9abe75bfceaf25074dd7f78dbfbe84abe2d7bf6f7acbdd6", checked := Tryz.checked }
namespace Rows
def none {H : Type} : Left H := { results := [], args := [] }

/-- 'porismlaw21.DepsOrder': WHATEVER THE INPUT: true; the input reads as it did. -/
def depsOrderSpec : ChangeSpec := { name := "depsOrder", fn := fun _ => fun
  | [d1, d2] => { results := [.lit (.bool true)], args := [d1, d2] }
  | _ => none }
def depsOrderRow : OpenClaim := { program := "ytfgjannlepahgaagreat", sum := "148150d559846df1b9abe75bfceaf25074dd7f78dbfbe84abe2d7bf6f7acbdd6", func := "porism/porismlaw21.DepsOrder", spec := "depsOrder", unfollowed := true, recurses := true, apart := false }
def DepsOrderSaid : Prop := depsOrderRow.holds Tryz.pinned (OpenSpec.ofChange depsOrderSpec)

/-- ITS FALSE NEIGHBOUR: 'it returns false'. Refute it at one input. -/
def depsOrderWrong : ChangeSpec := { name := "depsOrder", fn := fun _ => fun
  | [d1, d2] => { results := [.lit (.bool false)], args := [d1, d2] }
  | _ => none }
def DepsOrderWrongFalsely : Prop := depsOrderRow.holds Tryz.pinned (OpenSpec.ofChange depsOrderWrong)

/-- 'porismlaw21.DepsRings': WHATEVER THE INPUT: true; the input reads as it did. -/
def depsRingsSpec : ChangeSpec := { name := "depsRings", fn := fun _ => fun
  | [d1, d2, d3] => { results := [.lit (.bool true)], args := [d1, d2, d3] }
  | _ => none }
def depsRingsRow : OpenClaim := { program := "ytfgjannlepahgaagreat", sum := "148150d559846df1b9abe75bfceaf25074dd7f78dbfbe84abe2d7bf6f7acbdd6", func := "porism/porismlaw21.DepsRings", spec := "depsRings", unfollowed := true, recurses := true, apart := false }
def DepsRingsSaid : Prop := depsRingsRow.holds Tryz.pinned (OpenSpec.ofChange depsRingsSpec)

/-- ITS FALSE NEIGHBOUR: 'it returns false'. Refute it at one input. -/
def depsRingsWrong : ChangeSpec := { name := "depsRings", fn := fun _ => fun
  | [d1, d2, d3] => { results := [.lit (.bool false)], args := [d1, d2, d3] }
  | _ => none }
def DepsRingsWrongFalsely : Prop := depsRingsRow.holds Tryz.pinned (OpenSpec.ofChange depsRingsWrong)

/-- 'porismlaw21.DepsAdded': WHATEVER THE INPUT: true; the input reads as it did. -/
def depsAddedSpec : ChangeSpec := { name := "depsAdded", fn := fun _ => fun
  | [d1, d2, d3, d4] => { results := [.lit (.bool true)], args := [d1, d2, d3, d4] }
  | _ => none }
def depsAddedRow : OpenClaim := { program := "ytfgjannlepahgaagreat", sum := "148150d559846df1b9abe75bfceaf25074dd7f78dbfbe84abe2d7bf6f7acbdd6", func := "porism/porismlaw21.DepsAdded", spec := "depsAdded", unfollowed := true, recurses := true, apart := false }
def DepsAddedSaid : Prop := depsAddedRow.holds Tryz.pinned (OpenSpec.ofChange depsAddedSpec)

/-- ITS FALSE NEIGHBOUR: 'it returns false'. Refute it at one input. -/
def depsAddedWrong : ChangeSpec := { name := "depsAdded", fn := fun _ => fun
  | [d1, d2, d3, d4] => { results := [.lit (.bool false)], args := [d1, d2, d3, d4] }
  | _ => none }
def DepsAddedWrongFalsely : Prop := depsAddedRow.holds Tryz.pinned (OpenSpec.ofChange depsAddedWrong)

/-- 'porismlaw21.DepsCaps': WHATEVER THE INPUT: true; the input reads as it did. -/
def depsCapsSpec : ChangeSpec := { name := "depsCaps", fn := fun _ => fun
  | [d1, d2, d3] => { results := [.lit (.bool true)], args := [d1, d2, d3] }
  | _ => none }
def depsCapsRow : OpenClaim := { program := "ytfgjannlepahgaagreat", sum := "148150d559846df1b9abe75bfceaf25074dd7f78dbfbe84abe2d7bf6f7acbdd6", func := "porism/porismlaw21.DepsCaps", spec := "depsCaps", unfollowed := true, recurses := true, apart := false }
def DepsCapsSaid : Prop := depsCapsRow.holds Tryz.pinned (OpenSpec.ofChange depsCapsSpec)

/-- ITS FALSE NEIGHBOUR: 'it returns false'. Refute it at one input. -/
def depsCapsWrong : ChangeSpec := { name := "depsCaps", fn := fun _ => fun
  | [d1, d2, d3] => { results := [.lit (.bool false)], args := [d1, d2, d3] }
  | _ => none }
def DepsCapsWrongFalsely : Prop := depsCapsRow.holds Tryz.pinned (OpenSpec.ofChange depsCapsWrong)

/-- 'porismlaw21.DepsUnion': WHATEVER THE INPUT: true; the input reads as it did. -/
def depsUnionSpec : ChangeSpec := { name := "depsUnion", fn := fun _ => fun
  | [d1, d2, d3] => { results := [.lit (.bool true)], args := [d1, d2, d3] }
  | _ => none }
def depsUnionRow : OpenClaim := { program := "ytfgjannlepahgaagreat", sum := "148150d559846df1b9abe75bfceaf25074dd7f78dbfbe84abe2d7bf6f7acbdd6", func := "porism/porismlaw21.DepsUnion", spec := "depsUnion", unfollowed := true, recurses := true, loops := true, apart := false }
def DepsUnionSaid : Prop := depsUnionRow.holds Tryz.pinned (OpenSpec.ofChange depsUnionSpec)

/-- ITS FALSE NEIGHBOUR: 'it returns false'. Refute it at one input. -/
def depsUnionWrong : ChangeSpec := { name := "depsUnion", fn := fun _ => fun
  | [d1, d2, d3] => { results := [.lit (.bool false)], args := [d1, d2, d3] }
  | _ => none }
def DepsUnionWrongFalsely : Prop := depsUnionRow.holds Tryz.pinned (OpenSpec.ofChange depsUnionWrong)

/-- 'porismlaw21.DepsExact': WHATEVER THE INPUT: true; the input reads as it did. -/
def depsExactSpec : ChangeSpec := { name := "depsExact", fn := fun _ => fun
  | [d1, d2, d3, d4, d5] => { results := [.lit (.bool true)], args := [d1, d2, d3, d4, d5] }
  | _ => none }
def depsExactRow : OpenClaim := { program := "ytfgjannlepahgaagreat", sum := "148150d559846df1b9abe75bfceaf25074dd7f78dbfbe84abe2d7bf6f7acbdd6", func := "porism/porismlaw21.DepsExact", spec := "depsExact", unfollowed := true, recurses := true, loops := true, apart := false }
def DepsExactSaid : Prop := depsExactRow.holds Tryz.pinned (OpenSpec.ofChange depsExactSpec)

/-- ITS FALSE NEIGHBOUR: 'it returns false'. Refute it at one input. -/
def depsExactWrong : ChangeSpec := { name := "depsExact", fn := fun _ => fun
  | [d1, d2, d3, d4, d5] => { results := [.lit (.bool false)], args := [d1, d2, d3, d4, d5] }
  | _ => none }
def DepsExactWrongFalsely : Prop := depsExactRow.holds Tryz.pinned (OpenSpec.ofChange depsExactWrong)

/-- 'porismlaw21.DepsNeeds': WHATEVER THE INPUT: true; the input reads as it did. -/
def depsNeedsSpec : ChangeSpec := { name := "depsNeeds", fn := fun _ => fun
  | [d1, d2, d3] => { results := [.lit (.bool true)], args := [d1, d2, d3] }
  | _ => none }
def depsNeedsRow : OpenClaim := { program := "ytfgjannlepahgaagreat", sum := "148150d559846df1b9abe75bfceaf25074dd7f78dbfbe84abe2d7bf6f7acbdd6", func := "porism/porismlaw21.DepsNeeds", spec := "depsNeeds", unfollowed := true, recurses := true, loops := true, apart := false }
def DepsNeedsSaid : Prop := depsNeedsRow.holds Tryz.pinned (OpenSpec.ofChange depsNeedsSpec)

/-- ITS FALSE NEIGHBOUR: 'it returns false'. Refute it at one input. -/
def depsNeedsWrong : ChangeSpec := { name := "depsNeeds", fn := fun _ => fun
  | [d1, d2, d3] => { results := [.lit (.bool false)], args := [d1, d2, d3] }
  | _ => none }
def DepsNeedsWrongFalsely : Prop := depsNeedsRow.holds Tryz.pinned (OpenSpec.ofChange depsNeedsWrong)

/-- 'porismlaw21.DepsRows': WHATEVER THE INPUT: true; the input reads as it did. -/
def depsRowsSpec : ChangeSpec := { name := "depsRows", fn := fun _ => fun
  | [d] => { results := [.lit (.bool true)], args := [d] }
  | _ => none }
def depsRowsRow : OpenClaim := { program := "ytfgjannlepahgaagreat", sum := "148150d559846df1b9abe75bfceaf25074dd7f78dbfbe84abe2d7bf6f7acbdd6", func := "porism/porismlaw21.DepsRows", spec := "depsRows", unfollowed := true, recurses := true, loops := true, apart := false }
def DepsRowsSaid : Prop := depsRowsRow.holds Tryz.pinned (OpenSpec.ofChange depsRowsSpec)

/-- ITS FALSE NEIGHBOUR: 'it returns false'. Refute it at one input. -/
def depsRowsWrong : ChangeSpec := { name := "depsRows", fn := fun _ => fun
  | [d] => { results := [.lit (.bool false)], args := [d] }
  | _ => none }
def DepsRowsWrongFalsely : Prop := depsRowsRow.holds Tryz.pinned (OpenSpec.ofChange depsRowsWrong)

/-- 'porismlaw21.DepsLast': WHATEVER THE INPUT: true; the input reads as it did. -/
def depsLastSpec : ChangeSpec := { name := "depsLast", fn := fun _ => fun
  | [d1, d2] => { results := [.lit (.bool true)], args := [d1, d2] }
  | _ => none }
def depsLastRow : OpenClaim := { program := "ytfgjannlepahgaagreat", sum := "148150d559846df1b9abe75bfceaf25074dd7f78dbfbe84abe2d7bf6f7acbdd6", func := "porism/porismlaw21.DepsLast", spec := "depsLast", unfollowed := true, recurses := true, loops := true, apart := false }
def DepsLastSaid : Prop := depsLastRow.holds Tryz.pinned (OpenSpec.ofChange depsLastSpec)

/-- ITS FALSE NEIGHBOUR: 'it returns false'. Refute it at one input. -/
def depsLastWrong : ChangeSpec := { name := "depsLast", fn := fun _ => fun
  | [d1, d2] => { results := [.lit (.bool false)], args := [d1, d2] }
  | _ => none }
def DepsLastWrongFalsely : Prop := depsLastRow.holds Tryz.pinned (OpenSpec.ofChange depsLastWrong)

/- THE SECOND FORM. 'bulk': how many values and letters a reading holds, each counted each time it is reached (what is shared counts as often as it is met; a slice's spare places count too). A statement '..UptoSaid' is the law's where the arguments, and the package variables that the reading takes, are together of bulk at most 1048576: NARROWER than '..Said'. Prove '..Said' where nothing that the law and all that it calls make is longer than what came in: it says more and counts as full. Else prove '..UptoSaid'. A law counts once. -/
mutual
def uptoBulk {H : Type} : DataW H → Nat
  | .lit (.string bytes) => bytes.length + 1
  | .lit _ => 1
  | .nil => 1
  | .ptr d => uptoBulk d + 1
  | .slice elems spare => uptoBulkAll elems + uptoBulkAll spare + 1
  | .agg parts => uptoBulkAll parts + 1
  | .iface _ d => uptoBulk d + 1
  | .map entries => uptoBulkEntries entries + 1
  | .held _ => 1
def uptoBulkAll {H : Type} : List (DataW H) → Nat
  | [] => 0
  | d :: r => uptoBulk d + uptoBulkAll r
def uptoBulkEntries {H : Type} : List (Lit × DataW H) → Nat
  | [] => 0
  | x :: r => uptoBulkEntry x + uptoBulkEntries r
def uptoBulkEntry {H : Type} : Lit × DataW H → Nat
  | (.string bytes, d) => bytes.length + uptoBulk d + 1
  | (_, d) => uptoBulk d + 1
 end
def uptoSmall : (H : Type) → List (DataW H) → Bool := fun _ ds => decide (uptoBulkAll ds ≤ 1048576)
def OpenSpec.upto (s : _root_.Go.ChangeSpec) : _root_.Go.OpenSpec := { _root_.Go.OpenSpec.ofChange s with cond := some uptoSmall }

/-- 'porismlaw21.DepsOrder', WHERE WHAT IT READS IS OF BULK AT MOST 1048576: true; the input reads as it did. -/
def depsOrderUptoRow : OpenClaim := { program := "ytfgjannlepahgaagreat", sum := "148150d559846df1b9abe75bfceaf25074dd7f78dbfbe84abe2d7bf6f7acbdd6", func := "porism/porismlaw21.DepsOrder", spec := "depsOrder", unfollowed := true, recurses := true, apart := false, narrowed := true }
def DepsOrderUptoSaid : Prop := depsOrderUptoRow.holds Tryz.pinned (OpenSpec.upto depsOrderSpec)

/-- 'porismlaw21.DepsRings', WHERE WHAT IT READS IS OF BULK AT MOST 1048576: true; the input reads as it did. -/
def depsRingsUptoRow : OpenClaim := { program := "ytfgjannlepahgaagreat", sum := "148150d559846df1b9abe75bfceaf25074dd7f78dbfbe84abe2d7bf6f7acbdd6", func := "porism/porismlaw21.DepsRings", spec := "depsRings", unfollowed := true, recurses := true, apart := false, narrowed := true }
def DepsRingsUptoSaid : Prop := depsRingsUptoRow.holds Tryz.pinned (OpenSpec.upto depsRingsSpec)

/-- 'porismlaw21.DepsAdded', WHERE WHAT IT READS IS OF BULK AT MOST 1048576: true; the input reads as it did. -/
def depsAddedUptoRow : OpenClaim := { program := "ytfgjannlepahgaagreat", sum := "148150d559846df1b9abe75bfceaf25074dd7f78dbfbe84abe2d7bf6f7acbdd6", func := "porism/porismlaw21.DepsAdded", spec := "depsAdded", unfollowed := true, recurses := true, apart := false, narrowed := true }
def DepsAddedUptoSaid : Prop := depsAddedUptoRow.holds Tryz.pinned (OpenSpec.upto depsAddedSpec)

/-- 'porismlaw21.DepsCaps', WHERE WHAT IT READS IS OF BULK AT MOST 1048576: true; the input reads as it did. -/
def depsCapsUptoRow : OpenClaim := { program := "ytfgjannlepahgaagreat", sum := "148150d559846df1b9abe75bfceaf25074dd7f78dbfbe84abe2d7bf6f7acbdd6", func := "porism/porismlaw21.DepsCaps", spec := "depsCaps", unfollowed := true, recurses := true, apart := false, narrowed := true }
def DepsCapsUptoSaid : Prop := depsCapsUptoRow.holds Tryz.pinned (OpenSpec.upto depsCapsSpec)

/-- 'porismlaw21.DepsUnion', WHERE WHAT IT READS IS OF BULK AT MOST 1048576: true; the input reads as it did. -/
def depsUnionUptoRow : OpenClaim := { program := "ytfgjannlepahgaagreat", sum := "148150d559846df1b9abe75bfceaf25074dd7f78dbfbe84abe2d7bf6f7acbdd6", func := "porism/porismlaw21.DepsUnion", spec := "depsUnion", unfollowed := true, recurses := true, loops := true, apart := false, narrowed := true }
def DepsUnionUptoSaid : Prop := depsUnionUptoRow.holds Tryz.pinned (OpenSpec.upto depsUnionSpec)

/-- 'porismlaw21.DepsExact', WHERE WHAT IT READS IS OF BULK AT MOST 1048576: true; the input reads as it did. -/
def depsExactUptoRow : OpenClaim := { program := "ytfgjannlepahgaagreat", sum := "148150d559846df1b9abe75bfceaf25074dd7f78dbfbe84abe2d7bf6f7acbdd6", func := "porism/porismlaw21.DepsExact", spec := "depsExact", unfollowed := true, recurses := true, loops := true, apart := false, narrowed := true }
def DepsExactUptoSaid : Prop := depsExactUptoRow.holds Tryz.pinned (OpenSpec.upto depsExactSpec)

/-- 'porismlaw21.DepsNeeds', WHERE WHAT IT READS IS OF BULK AT MOST 1048576: true; the input reads as it did. -/
def depsNeedsUptoRow : OpenClaim := { program := "ytfgjannlepahgaagreat", sum := "148150d559846df1b9abe75bfceaf25074dd7f78dbfbe84abe2d7bf6f7acbdd6", func := "porism/porismlaw21.DepsNeeds", spec := "depsNeeds", unfollowed := true, recurses := true, loops := true, apart := false, narrowed := true }
def DepsNeedsUptoSaid : Prop := depsNeedsUptoRow.holds Tryz.pinned (OpenSpec.upto depsNeedsSpec)

/-- 'porismlaw21.DepsRows', WHERE WHAT IT READS IS OF BULK AT MOST 1048576: true; the input reads as it did. -/
def depsRowsUptoRow : OpenClaim := { program := "ytfgjannlepahgaagreat", sum := "148150d559846df1b9abe75bfceaf25074dd7f78dbfbe84abe2d7bf6f7acbdd6", func := "porism/porismlaw21.DepsRows", spec := "depsRows", unfollowed := true, recurses := true, loops := true, apart := false, narrowed := true }
def DepsRowsUptoSaid : Prop := depsRowsUptoRow.holds Tryz.pinned (OpenSpec.upto depsRowsSpec)

/-- 'porismlaw21.DepsLast', WHERE WHAT IT READS IS OF BULK AT MOST 1048576: true; the input reads as it did. -/
def depsLastUptoRow : OpenClaim := { program := "ytfgjannlepahgaagreat", sum := "148150d559846df1b9abe75bfceaf25074dd7f78dbfbe84abe2d7bf6f7acbdd6", func := "porism/porismlaw21.DepsLast", spec := "depsLast", unfollowed := true, recurses := true, loops := true, apart := false, narrowed := true }
def DepsLastUptoSaid : Prop := depsLastUptoRow.holds Tryz.pinned (OpenSpec.upto depsLastSpec)

end Rows
end Go.Proofs.YtfgjannlepahgaaGreat
