/-
  NARROWER THAN 'FOR EVERY INPUT', by the rows' own cells (each row's printed sentence says how): PressExact: laid · PressPlaced: laid · PressBack: laid · PressLong: laid · PressBlock: laid · PressEnds: laid.
  DERIVED. THE GIVEN ROWS OF THIS SEAT. 6 by the template 'for every input the law returns true; each argument reads behind the call as it read before'; 0 by the template 'total and deterministic' (their statements: YtejgoienkpaabaaDoorTotals.lean).
  GIVEN WITH THE SEED: the statements are not yours to turn. If you find one false, say at which input.
  Laid BY PROGRAM, IN A SANDBOX (cutbox-rows.mjs): the forced cells as the released guide's own fill.sh prints them over the translation 685964b6655e3ed8… (all of the seat's roots in one cut). By AI agents, Wed Nov 11 2026. No macro, syntax, notation, axiom, sorry.
-/
import Derived.Test.YtejgoienkpaabaaDoorChecked
import GoSem.Claim
import GoSem.ClaimJoined
import GoSem.ClaimMapViews
import Derived.JoinedTies
import Derived.KernelRfl
namespace Go.Proofs.YtejgoienkpaabaaDoor
/- THE CELL 'sum', in the pinned program and in every row, IS THE sha256 OF THE DUMP (.gsa) THAT YtejgoienkpaabaaDoorProg.lean LOADS. Nothing in Lean hashes anything: it is a label: what it is worth is what the hold of that sum in a sandbox is worth. -/
noncomputable def Tryd.pinned : Pinned := { name := "ytejgoienkpaabaadoor", sum := "685964b6655e3ed89a04602966d964ac3728df221e31e0d6ba0ec8e5aac0ee17", checked := Tryd.checked }
namespace Rows
def none {H : Type} : Left H := { results := [], args := [] }

/- WHAT THE LISTED PACKAGE-LEVEL VARIABLES READ AS WHEN THE CALL BEGINS. Each datum BY PROGRAM (the guide's laid-datum.mjs) off the statement by which the dump's own 'gosem.cut.vars' lays the variable. In a bare row this is a premise. The card (YtejgoienkpaabaaDoorCards.lean) ties it to the program's text. -/
def laid_satchel_code_errnos {H : Type} : DataW H := .agg [.lit (.int .i64 0), .lit (.int .i64 10), .lit (.int .i64 11), .lit (.int .i64 12), .lit (.int .i64 14)]

/-- 'satchellaw8.PressExact': WHATEVER THE INPUT: true; the input reads as it did. -/
def pressExactSpec : ChangeSpec := { name := "pressExact", fn := fun _ => fun
  | [d] => { results := [.lit (.bool true)], args := [d] }
  | _ => none }
def pressExactRow : OpenClaim := { program := "ytejgoienkpaabaadoor", sum := "685964b6655e3ed89a04602966d964ac3728df221e31e0d6ba0ec8e5aac0ee17", func := "satchel/satchellaw8.PressExact", spec := "pressExact", unfollowed := true, recurses := true, named := ["satchel/code.errnos"], plainKeys := false, apart := false, laid := [("satchel/code.errnos", laid_satchel_code_errnos)] }
def PressExactSaid : Prop := pressExactRow.holds Tryd.pinned (OpenSpec.ofChange pressExactSpec)

/-- ITS FALSE NEIGHBOUR: 'it returns false'. Refute it at one input. -/
def pressExactWrong : ChangeSpec := { name := "pressExact", fn := fun _ => fun
  | [d] => { results := [.lit (.bool false)], args := [d] }
  | _ => none }
def PressExactWrongFalsely : Prop := pressExactRow.holds Tryd.pinned (OpenSpec.ofChange pressExactWrong)

/-- 'satchellaw8.PressPlaced': WHATEVER THE INPUT: true; the input reads as it did. -/
def pressPlacedSpec : ChangeSpec := { name := "pressPlaced", fn := fun _ => fun
  | [d] => { results := [.lit (.bool true)], args := [d] }
  | _ => none }
def pressPlacedRow : OpenClaim := { program := "ytejgoienkpaabaadoor", sum := "685964b6655e3ed89a04602966d964ac3728df221e31e0d6ba0ec8e5aac0ee17", func := "satchel/satchellaw8.PressPlaced", spec := "pressPlaced", unfollowed := true, recurses := true, named := ["satchel/code.errnos"], plainKeys := false, apart := false, laid := [("satchel/code.errnos", laid_satchel_code_errnos)] }
def PressPlacedSaid : Prop := pressPlacedRow.holds Tryd.pinned (OpenSpec.ofChange pressPlacedSpec)

/-- ITS FALSE NEIGHBOUR: 'it returns false'. Refute it at one input. -/
def pressPlacedWrong : ChangeSpec := { name := "pressPlaced", fn := fun _ => fun
  | [d] => { results := [.lit (.bool false)], args := [d] }
  | _ => none }
def PressPlacedWrongFalsely : Prop := pressPlacedRow.holds Tryd.pinned (OpenSpec.ofChange pressPlacedWrong)

/-- 'satchellaw8.PressBack': WHATEVER THE INPUT: true; the input reads as it did. -/
def pressBackSpec : ChangeSpec := { name := "pressBack", fn := fun _ => fun
  | [d] => { results := [.lit (.bool true)], args := [d] }
  | _ => none }
def pressBackRow : OpenClaim := { program := "ytejgoienkpaabaadoor", sum := "685964b6655e3ed89a04602966d964ac3728df221e31e0d6ba0ec8e5aac0ee17", func := "satchel/satchellaw8.PressBack", spec := "pressBack", unfollowed := true, recurses := true, named := ["satchel/code.errnos"], plainKeys := false, apart := false, laid := [("satchel/code.errnos", laid_satchel_code_errnos)] }
def PressBackSaid : Prop := pressBackRow.holds Tryd.pinned (OpenSpec.ofChange pressBackSpec)

/-- ITS FALSE NEIGHBOUR: 'it returns false'. Refute it at one input. -/
def pressBackWrong : ChangeSpec := { name := "pressBack", fn := fun _ => fun
  | [d] => { results := [.lit (.bool false)], args := [d] }
  | _ => none }
def PressBackWrongFalsely : Prop := pressBackRow.holds Tryd.pinned (OpenSpec.ofChange pressBackWrong)

/-- 'satchellaw8.PressLong': WHATEVER THE INPUT: true; the input reads as it did. -/
def pressLongSpec : ChangeSpec := { name := "pressLong", fn := fun _ => fun
  | [d] => { results := [.lit (.bool true)], args := [d] }
  | _ => none }
def pressLongRow : OpenClaim := { program := "ytejgoienkpaabaadoor", sum := "685964b6655e3ed89a04602966d964ac3728df221e31e0d6ba0ec8e5aac0ee17", func := "satchel/satchellaw8.PressLong", spec := "pressLong", unfollowed := true, recurses := true, named := ["satchel/code.errnos"], plainKeys := false, apart := false, laid := [("satchel/code.errnos", laid_satchel_code_errnos)] }
def PressLongSaid : Prop := pressLongRow.holds Tryd.pinned (OpenSpec.ofChange pressLongSpec)

/-- ITS FALSE NEIGHBOUR: 'it returns false'. Refute it at one input. -/
def pressLongWrong : ChangeSpec := { name := "pressLong", fn := fun _ => fun
  | [d] => { results := [.lit (.bool false)], args := [d] }
  | _ => none }
def PressLongWrongFalsely : Prop := pressLongRow.holds Tryd.pinned (OpenSpec.ofChange pressLongWrong)

/-- 'satchellaw8.PressBlock': WHATEVER THE INPUT: true; the input reads as it did. -/
def pressBlockSpec : ChangeSpec := { name := "pressBlock", fn := fun _ => fun
  | [d] => { results := [.lit (.bool true)], args := [d] }
  | _ => none }
def pressBlockRow : OpenClaim := { program := "ytejgoienkpaabaadoor", sum := "685964b6655e3ed89a04602966d964ac3728df221e31e0d6ba0ec8e5aac0ee17", func := "satchel/satchellaw8.PressBlock", spec := "pressBlock", unfollowed := true, recurses := true, named := ["satchel/code.errnos"], plainKeys := false, apart := false, laid := [("satchel/code.errnos", laid_satchel_code_errnos)] }
def PressBlockSaid : Prop := pressBlockRow.holds Tryd.pinned (OpenSpec.ofChange pressBlockSpec)

/-- ITS FALSE NEIGHBOUR: 'it returns false'. Refute it at one input. -/
def pressBlockWrong : ChangeSpec := { name := "pressBlock", fn := fun _ => fun
  | [d] => { results := [.lit (.bool false)], args := [d] }
  | _ => none }
def PressBlockWrongFalsely : Prop := pressBlockRow.holds Tryd.pinned (OpenSpec.ofChange pressBlockWrong)

/-- 'satchellaw8.PressEnds': WHATEVER THE INPUT: true; the input reads as it did. -/
def pressEndsSpec : ChangeSpec := { name := "pressEnds", fn := fun _ => fun
  | [d] => { results := [.lit (.bool true)], args := [d] }
  | _ => none }
def pressEndsRow : OpenClaim := { program := "ytejgoienkpaabaadoor", sum := "685964b6655e3ed89a04602966d964ac3728df221e31e0d6ba0ec8e5aac0ee17", func := "satchel/satchellaw8.PressEnds", spec := "pressEnds", unfollowed := true, recurses := true, named := ["satchel/code.errnos"], plainKeys := false, apart := false, laid := [("satchel/code.errnos", laid_satchel_code_errnos)] }
def PressEndsSaid : Prop := pressEndsRow.holds Tryd.pinned (OpenSpec.ofChange pressEndsSpec)

/-- ITS FALSE NEIGHBOUR: 'it returns false'. Refute it at one input. -/
def pressEndsWrong : ChangeSpec := { name := "pressEnds", fn := fun _ => fun
  | [d] => { results := [.lit (.bool false)], args := [d] }
  | _ => none }
def PressEndsWrongFalsely : Prop := pressEndsRow.holds Tryd.pinned (OpenSpec.ofChange pressEndsWrong)

/- THE SECOND FORM. 'bulk': how many values and letters a reading holds, each counted each time it is reached (what is shared counts as often as it is met; a slice's spare places count too). A statement '..UptoSaid' is the law's where the arguments, and the package variables that the reading takes, are together of bulk at most 1048576: NARROWER than '..Said'. Prove '..Said' where nothing that the law and all that it calls make is longer than what came in: it says more and counts as full. Else prove '..UptoSaid'. A law counts once. -/
mutual
def uptoBulk {H : Type} : DataW H → Nat
  | .lit (.string bytes) => bytes.length + 1
  | .lit _ => 1
  | .nil => 1
  | .ptr d => uptoBulk d + 1
  | .slice elems spare => uptoBulkAll elems + uptoBulkAll spare + 1
  | .agg parts => uptoBulkAll parts + 1
  | .iface _ d => uptoBulk d + 1
  | .map entries => uptoBulkEntries entries + 1
  | .held _ => 1
def uptoBulkAll {H : Type} : List (DataW H) → Nat
  | [] => 0
  | d :: r => uptoBulk d + uptoBulkAll r
def uptoBulkEntries {H : Type} : List (Lit × DataW H) → Nat
  | [] => 0
  | x :: r => uptoBulkEntry x + uptoBulkEntries r
def uptoBulkEntry {H : Type} : Lit × DataW H → Nat
  | (.string bytes, d) => bytes.length + uptoBulk d + 1
  | (_, d) => uptoBulk d + 1
 end
def uptoSmall : (H : Type) → List (DataW H) → Bool := fun _ ds => decide (uptoBulkAll ds ≤ 1048576)
def OpenSpec.upto (s : _root_.Go.ChangeSpec) : _root_.Go.OpenSpec := { _root_.Go.OpenSpec.ofChange s with cond := some uptoSmall }

/-- 'satchellaw8.PressExact', WHERE WHAT IT READS IS OF BULK AT MOST 1048576: true; the input reads as it did. -/
def pressExactUptoRow : OpenClaim := { program := "ytejgoienkpaabaadoor", sum := "685964b6655e3ed89a04602966d964ac3728df221e31e0d6ba0ec8e5aac0ee17", func := "satchel/satchellaw8.PressExact", spec := "pressExact", unfollowed := true, recurses := true, named := ["satchel/code.errnos"], plainKeys := false, apart := false, laid := [("satchel/code.errnos", laid_satchel_code_errnos)], narrowed := true }
def PressExactUptoSaid : Prop := pressExactUptoRow.holds Tryd.pinned (OpenSpec.upto pressExactSpec)

/-- 'satchellaw8.PressPlaced', WHERE WHAT IT READS IS OF BULK AT MOST 1048576: true; the input reads as it did. -/
def pressPlacedUptoRow : OpenClaim := { program := "ytejgoienkpaabaadoor", sum := "685964b6655e3ed89a04602966d964ac3728df221e31e0d6ba0ec8e5aac0ee17", func := "satchel/satchellaw8.PressPlaced", spec := "pressPlaced", unfollowed := true, recurses := true, named := ["satchel/code.errnos"], plainKeys := false, apart := false, laid := [("satchel/code.errnos", laid_satchel_code_errnos)], narrowed := true }
def PressPlacedUptoSaid : Prop := pressPlacedUptoRow.holds Tryd.pinned (OpenSpec.upto pressPlacedSpec)

/-- 'satchellaw8.PressBack', WHERE WHAT IT READS IS OF BULK AT MOST 1048576: true; the input reads as it did. -/
def pressBackUptoRow : OpenClaim := { program := "ytejgoienkpaabaadoor", sum := "685964b6655e3ed89a04602966d964ac3728df221e31e0d6ba0ec8e5aac0ee17", func := "satchel/satchellaw8.PressBack", spec := "pressBack", unfollowed := true, recurses := true, named := ["satchel/code.errnos"], plainKeys := false, apart := false, laid := [("satchel/code.errnos", laid_satchel_code_errnos)], narrowed := true }
def PressBackUptoSaid : Prop := pressBackUptoRow.holds Tryd.pinned (OpenSpec.upto pressBackSpec)

/-- 'satchellaw8.PressLong', WHERE WHAT IT READS IS OF BULK AT MOST 1048576: true; the input reads as it did. -/
def pressLongUptoRow : OpenClaim := { program := "ytejgoienkpaabaadoor", sum := "685964b6655e3ed89a04602966d964ac3728df221e31e0d6ba0ec8e5aac0ee17", func := "satchel/satchellaw8.PressLong", spec := "pressLong", unfollowed := true, recurses := true, named := ["satchel/code.errnos"], plainKeys := false, apart := false, laid := [("satchel/code.errnos", laid_satchel_code_errnos)], narrowed := true }
def PressLongUptoSaid : Prop := pressLongUptoRow.holds Tryd.pinned (OpenSpec.upto pressLongSpec)

/-- 'satchellaw8.PressBlock', WHERE WHAT IT READS IS OF BULK AT MOST 1048576: true; the input reads as it did. -/
def pressBlockUptoRow : OpenClaim := { program := "ytejgoienkpaabaadoor", sum := "685964b6655e3ed89a04602966d964ac3728df221e31e0d6ba0ec8e5aac0ee17", func := "satchel/satchellaw8.PressBlock", spec := "pressBlock", unfollowed := true, recurses := true, named := ["satchel/code.errnos"], plainKeys := false, apart := false, laid := [("satchel/code.errnos", laid_satchel_code_errnos)], narrowed := true }
def PressBlockUptoSaid : Prop := pressBlockUptoRow.holds Tryd.pinned (OpenSpec.upto pressBlockSpec)

/-- 'satchellaw8.PressEnds', WHERE WHAT IT READS IS OF BULK AT MOST 1048576: true; the input reads as it did. -/
def pressEndsUptoRow : OpenClaim := { program := "ytejgoienkpaabaadoor", sum := "685964b6655e3ed89a04602966d964ac3728df221e31e0d6ba0ec8e5aac0ee17", func := "satchel/satchellaw8.PressEnds", spec := "pressEnds", unfollowed := true, recurses := true, named := ["satchel/code.errnos"], plainKeys := false, apart := false, laid := [("satchel/code.errnos", laid_satchel_code_errnos)], narrowed := true }
def PressEndsUptoSaid : Prop := pressEndsUptoRow.holds Tryd.pinned (OpenSpec.upto pressEndsSpec)

end Rows
end Go.Proofs.YtejgoienkpaabaaDoor
