/-
  NARROWER THAN 'FOR EVERY INPUT', by the rows' own cells (each row's printed sentence says how): DecompCovers: laid · DecompOf: laid · DecompMay: laid · DecompHomes: laid · DecompAcyclic: laid.
  DERIVED. THE GIVEN ROWS OF THIS SEAT. 5 by the template 'for every input the law returns true; each argument reads behind the call as it read before'; 0 by the template 'total and deterministic' (their statements: YtceiaekkfabeaaaDoorTotals.lean).
  GIVEN WITH THE SEED: the statements are not yours to turn. If you find one false, say at which input.
  Laid BY PROGRAM, IN A SANDBOX (cutbox-rows.mjs): the forced cells as the released guide's own fill.sh prints them over the translation 7edf06662c556529… (all of the seat's roots in one cut). By AI agents, Wed Nov 11 2026. No macro, syntax, notation, axiom, sorry.
-/
import Derived.Test.YtceiaekkfabeaaaDoorChecked
import GoSem.Claim
import GoSem.ClaimJoined
import GoSem.ClaimMapViews
import Derived.JoinedTies
import Derived.KernelRfl
namespace Go.Proofs.YtceiaekkfabeaaaDoor
/- THE CELL 'sum', in the pinned program and in every row, IS THE sha256 OF THE DUMP (.gsa) THAT YtceiaekkfabeaaaDoorProg.lean LOADS. Nothing in Lean hashes anything: it is a label: what it is worth is what the hold of that sum in a sandbox is worth. -/
noncomputable def Tryd.pinned : Pinned := { name := "ytceiaekkfabeaaadoor", sum := "7edf06662c556529536663bc2dc7e25b89fa3625125b30a74a2ac5e1a1aea6e7", checked := Tryd.checked }
namespace Rows
def none {H : Type} : Left H := { results := [], args := [] }

/- WHAT THE LISTED PACKAGE-LEVEL VARIABLES READ AS WHEN THE CALL BEGINS. Each datum BY PROGRAM (the guide's laid-datum.mjs) off the statement by which the dump's own 'gosem.cut.vars' lays the variable. In a bare row this is a premise. The card (YtceiaekkfabeaaaDoorCards.lean) ties it to the program's text. -/
def laid_math_bits_deBruijn64tab {H : Type} : DataW H := .agg [.lit (.int .u8 0), .lit (.int .u8 1), .lit (.int .u8 56), .lit (.int .u8 2), .lit (.int .u8 57), .lit (.int .u8 49), .lit (.int .u8 28), .lit (.int .u8 3), .lit (.int .u8 61), .lit (.int .u8 58), .lit (.int .u8 42), .lit (.int .u8 50), .lit (.int .u8 38), .lit (.int .u8 29), .lit (.int .u8 17), .lit (.int .u8 4), .lit (.int .u8 62), .lit (.int .u8 47), .lit (.int .u8 59), .lit (.int .u8 36), .lit (.int .u8 45), .lit (.int .u8 43), .lit (.int .u8 51), .lit (.int .u8 22), .lit (.int .u8 53), .lit (.int .u8 39), .lit (.int .u8 33), .lit (.int .u8 30), .lit (.int .u8 24), .lit (.int .u8 18), .lit (.int .u8 12), .lit (.int .u8 5), .lit (.int .u8 63), .lit (.int .u8 55), .lit (.int .u8 48), .lit (.int .u8 27), .lit (.int .u8 60), .lit (.int .u8 41), .lit (.int .u8 37), .lit (.int .u8 16), .lit (.int .u8 46), .lit (.int .u8 35), .lit (.int .u8 44), .lit (.int .u8 21), .lit (.int .u8 52), .lit (.int .u8 32), .lit (.int .u8 23), .lit (.int .u8 11), .lit (.int .u8 54), .lit (.int .u8 26), .lit (.int .u8 40), .lit (.int .u8 15), .lit (.int .u8 34), .lit (.int .u8 20), .lit (.int .u8 31), .lit (.int .u8 10), .lit (.int .u8 25), .lit (.int .u8 14), .lit (.int .u8 19), .lit (.int .u8 9), .lit (.int .u8 13), .lit (.int .u8 8), .lit (.int .u8 7), .lit (.int .u8 6)]

/-- 'colanderlaw21.DecompCovers': WHATEVER THE INPUT: true; the input reads as it did. -/
def decompCoversSpec : ChangeSpec := { name := "decompCovers", fn := fun _ => fun
  | [d1, d2] => { results := [.lit (.bool true)], args := [d1, d2] }
  | _ => none }
def decompCoversRow : OpenClaim := { program := "ytceiaekkfabeaaadoor", sum := "7edf06662c556529536663bc2dc7e25b89fa3625125b30a74a2ac5e1a1aea6e7", func := "colander/colanderlaw21.DecompCovers", spec := "decompCovers", unfollowed := true, recurses := true, named := ["math/bits.deBruijn64tab"], apart := false, laid := [("math/bits.deBruijn64tab", laid_math_bits_deBruijn64tab)] }
def DecompCoversSaid : Prop := decompCoversRow.holds Tryd.pinned (OpenSpec.ofChange decompCoversSpec)

/-- ITS FALSE NEIGHBOUR: 'it returns false'. Refute it at one input. -/
def decompCoversWrong : ChangeSpec := { name := "decompCovers", fn := fun _ => fun
  | [d1, d2] => { results := [.lit (.bool false)], args := [d1, d2] }
  | _ => none }
def DecompCoversWrongFalsely : Prop := decompCoversRow.holds Tryd.pinned (OpenSpec.ofChange decompCoversWrong)

/-- 'colanderlaw21.DecompOf': WHATEVER THE INPUT: true; the input reads as it did. -/
def decompOfSpec : ChangeSpec := { name := "decompOf", fn := fun _ => fun
  | [d1, d2] => { results := [.lit (.bool true)], args := [d1, d2] }
  | _ => none }
def decompOfRow : OpenClaim := { program := "ytceiaekkfabeaaadoor", sum := "7edf06662c556529536663bc2dc7e25b89fa3625125b30a74a2ac5e1a1aea6e7", func := "colander/colanderlaw21.DecompOf", spec := "decompOf", unfollowed := true, recurses := true, named := ["math/bits.deBruijn64tab"], apart := false, laid := [("math/bits.deBruijn64tab", laid_math_bits_deBruijn64tab)] }
def DecompOfSaid : Prop := decompOfRow.holds Tryd.pinned (OpenSpec.ofChange decompOfSpec)

/-- ITS FALSE NEIGHBOUR: 'it returns false'. Refute it at one input. -/
def decompOfWrong : ChangeSpec := { name := "decompOf", fn := fun _ => fun
  | [d1, d2] => { results := [.lit (.bool false)], args := [d1, d2] }
  | _ => none }
def DecompOfWrongFalsely : Prop := decompOfRow.holds Tryd.pinned (OpenSpec.ofChange decompOfWrong)

/-- 'colanderlaw21.DecompMay': WHATEVER THE INPUT: true; the input reads as it did. -/
def decompMaySpec : ChangeSpec := { name := "decompMay", fn := fun _ => fun
  | [d1, d2, d3] => { results := [.lit (.bool true)], args := [d1, d2, d3] }
  | _ => none }
def decompMayRow : OpenClaim := { program := "ytceiaekkfabeaaadoor", sum := "7edf06662c556529536663bc2dc7e25b89fa3625125b30a74a2ac5e1a1aea6e7", func := "colander/colanderlaw21.DecompMay", spec := "decompMay", unfollowed := true, recurses := true, named := ["math/bits.deBruijn64tab"], apart := false, laid := [("math/bits.deBruijn64tab", laid_math_bits_deBruijn64tab)] }
def DecompMaySaid : Prop := decompMayRow.holds Tryd.pinned (OpenSpec.ofChange decompMaySpec)

/-- ITS FALSE NEIGHBOUR: 'it returns false'. Refute it at one input. -/
def decompMayWrong : ChangeSpec := { name := "decompMay", fn := fun _ => fun
  | [d1, d2, d3] => { results := [.lit (.bool false)], args := [d1, d2, d3] }
  | _ => none }
def DecompMayWrongFalsely : Prop := decompMayRow.holds Tryd.pinned (OpenSpec.ofChange decompMayWrong)

/-- 'colanderlaw21.DecompHomes': WHATEVER THE INPUT: true; the input reads as it did. -/
def decompHomesSpec : ChangeSpec := { name := "decompHomes", fn := fun _ => fun
  | [d1, d2] => { results := [.lit (.bool true)], args := [d1, d2] }
  | _ => none }
def decompHomesRow : OpenClaim := { program := "ytceiaekkfabeaaadoor", sum := "7edf06662c556529536663bc2dc7e25b89fa3625125b30a74a2ac5e1a1aea6e7", func := "colander/colanderlaw21.DecompHomes", spec := "decompHomes", unfollowed := true, recurses := true, named := ["math/bits.deBruijn64tab"], apart := false, laid := [("math/bits.deBruijn64tab", laid_math_bits_deBruijn64tab)] }
def DecompHomesSaid : Prop := decompHomesRow.holds Tryd.pinned (OpenSpec.ofChange decompHomesSpec)

/-- ITS FALSE NEIGHBOUR: 'it returns false'. Refute it at one input. -/
def decompHomesWrong : ChangeSpec := { name := "decompHomes", fn := fun _ => fun
  | [d1, d2] => { results := [.lit (.bool false)], args := [d1, d2] }
  | _ => none }
def DecompHomesWrongFalsely : Prop := decompHomesRow.holds Tryd.pinned (OpenSpec.ofChange decompHomesWrong)

/-- 'colanderlaw21.DecompAcyclic': WHATEVER THE INPUT: true; the input reads as it did. -/
def decompAcyclicSpec : ChangeSpec := { name := "decompAcyclic", fn := fun _ => fun
  | [d] => { results := [.lit (.bool true)], args := [d] }
  | _ => none }
def decompAcyclicRow : OpenClaim := { program := "ytceiaekkfabeaaadoor", sum := "7edf06662c556529536663bc2dc7e25b89fa3625125b30a74a2ac5e1a1aea6e7", func := "colander/colanderlaw21.DecompAcyclic", spec := "decompAcyclic", unfollowed := true, recurses := true, named := ["math/bits.deBruijn64tab"], apart := false, laid := [("math/bits.deBruijn64tab", laid_math_bits_deBruijn64tab)] }
def DecompAcyclicSaid : Prop := decompAcyclicRow.holds Tryd.pinned (OpenSpec.ofChange decompAcyclicSpec)

/-- ITS FALSE NEIGHBOUR: 'it returns false'. Refute it at one input. -/
def decompAcyclicWrong : ChangeSpec := { name := "decompAcyclic", fn := fun _ => fun
  | [d] => { results := [.lit (.bool false)], args := [d] }
  | _ => none }
def DecompAcyclicWrongFalsely : Prop := decompAcyclicRow.holds Tryd.pinned (OpenSpec.ofChange decompAcyclicWrong)

/- THE SECOND FORM. 'bulk': how many values and letters a reading holds, each counted each time it is reached (what is shared counts as often as it is met; a slice's spare places count too). A statement '..UptoSaid' is the law's where the arguments, and the package variables that the reading takes, are together of bulk at most 1048576: NARROWER than '..Said'. Prove '..Said' where nothing that the law and all that it calls make is longer than what came in: it says more and counts as full. Else prove '..UptoSaid'. A law counts once. -/
mutual
def uptoBulk {H : Type} : DataW H → Nat
  | .lit (.string bytes) => bytes.length + 1
  | .lit _ => 1
  | .nil => 1
  | .ptr d => uptoBulk d + 1
  | .slice elems spare => uptoBulkAll elems + uptoBulkAll spare + 1
  | .agg parts => uptoBulkAll parts + 1
  | .iface _ d => uptoBulk d + 1
  | .map entries => uptoBulkEntries entries + 1
  | .held _ => 1
def uptoBulkAll {H : Type} : List (DataW H) → Nat
  | [] => 0
  | d :: r => uptoBulk d + uptoBulkAll r
def uptoBulkEntries {H : Type} : List (Lit × DataW H) → Nat
  | [] => 0
  | x :: r => uptoBulkEntry x + uptoBulkEntries r
def uptoBulkEntry {H : Type} : Lit × DataW H → Nat
  | (.string bytes, d) => bytes.length + uptoBulk d + 1
  | (_, d) => uptoBulk d + 1
 end
def uptoSmall : (H : Type) → List (DataW H) → Bool := fun _ ds => decide (uptoBulkAll ds ≤ 1048576)
def OpenSpec.upto (s : _root_.Go.ChangeSpec) : _root_.Go.OpenSpec := { _root_.Go.OpenSpec.ofChange s with cond := some uptoSmall }

/-- 'colanderlaw21.DecompCovers', WHERE WHAT IT READS IS OF BULK AT MOST 1048576: true; the input reads as it did. -/
def decompCoversUptoRow : OpenClaim := { program := "ytceiaekkfabeaaadoor", sum := "7edf06662c556529536663bc2dc7e25b89fa3625125b30a74a2ac5e1a1aea6e7", func := "colander/colanderlaw21.DecompCovers", spec := "decompCovers", unfollowed := true, recurses := true, named := ["math/bits.deBruijn64tab"], apart := false, laid := [("math/bits.deBruijn64tab", laid_math_bits_deBruijn64tab)], narrowed := true }
def DecompCoversUptoSaid : Prop := decompCoversUptoRow.holds Tryd.pinned (OpenSpec.upto decompCoversSpec)

/-- 'colanderlaw21.DecompOf', WHERE WHAT IT READS IS OF BULK AT MOST 1048576: true; the input reads as it did. -/
def decompOfUptoRow : OpenClaim := { program := "ytceiaekkfabeaaadoor", sum := "7edf06662c556529536663bc2dc7e25b89fa3625125b30a74a2ac5e1a1aea6e7", func := "colander/colanderlaw21.DecompOf", spec := "decompOf", unfollowed := true, recurses := true, named := ["math/bits.deBruijn64tab"], apart := false, laid := [("math/bits.deBruijn64tab", laid_math_bits_deBruijn64tab)], narrowed := true }
def DecompOfUptoSaid : Prop := decompOfUptoRow.holds Tryd.pinned (OpenSpec.upto decompOfSpec)

/-- 'colanderlaw21.DecompMay', WHERE WHAT IT READS IS OF BULK AT MOST 1048576: true; the input reads as it did. -/
def decompMayUptoRow : OpenClaim := { program := "ytceiaekkfabeaaadoor", sum := "7edf06662c556529536663bc2dc7e25b89fa3625125b30a74a2ac5e1a1aea6e7", func := "colander/colanderlaw21.DecompMay", spec := "decompMay", unfollowed := true, recurses := true, named := ["math/bits.deBruijn64tab"], apart := false, laid := [("math/bits.deBruijn64tab", laid_math_bits_deBruijn64tab)], narrowed := true }
def DecompMayUptoSaid : Prop := decompMayUptoRow.holds Tryd.pinned (OpenSpec.upto decompMaySpec)

/-- 'colanderlaw21.DecompHomes', WHERE WHAT IT READS IS OF BULK AT MOST 1048576: true; the input reads as it did. -/
def decompHomesUptoRow : OpenClaim := { program := "ytceiaekkfabeaaadoor", sum := "7edf06662c556529536663bc2dc7e25b89fa3625125b30a74a2ac5e1a1aea6e7", func := "colander/colanderlaw21.DecompHomes", spec := "decompHomes", unfollowed := true, recurses := true, named := ["math/bits.deBruijn64tab"], apart := false, laid := [("math/bits.deBruijn64tab", laid_math_bits_deBruijn64tab)], narrowed := true }
def DecompHomesUptoSaid : Prop := decompHomesUptoRow.holds Tryd.pinned (OpenSpec.upto decompHomesSpec)

/-- 'colanderlaw21.DecompAcyclic', WHERE WHAT IT READS IS OF BULK AT MOST 1048576: true; the input reads as it did. -/
def decompAcyclicUptoRow : OpenClaim := { program := "ytceiaekkfabeaaadoor", sum := "7edf06662c556529536663bc2dc7e25b89fa3625125b30a74a2ac5e1a1aea6e7", func := "colander/colanderlaw21.DecompAcyclic", spec := "decompAcyclic", unfollowed := true, recurses := true, named := ["math/bits.deBruijn64tab"], apart := false, laid := [("math/bits.deBruijn64tab", laid_math_bits_deBruijn64tab)], narrowed := true }
def DecompAcyclicUptoSaid : Prop := decompAcyclicUptoRow.holds Tryd.pinned (OpenSpec.upto decompAcyclicSpec)

end Rows
end Go.Proofs.YtceiaekkfabeaaaDoor
