/-
  NARROWER THAN 'FOR EVERY INPUT', by the rows' own cells (each row's printed sentence says how): FnExactSize: loops.
  DERIVED. THE GIVEN ROWS OF THIS SEAT. 7 by the template 'for every input the law returns true; each argument reads behind the call as it read before'; 0 by the template 'total and deterministic' (their statements: YtnjbmpabnceneaaTotals.lean).
  GIVEN WITH THE SEED: the statements are not yours to turn. If you find one false, say at which input.
  Laid BY PROGRAM, IN A SANDBOX (cutbox-rows.mjs): the forced cells as the released guide's own fill.sh prints them over the translation c587b3234b7f2ca8… (all of the seat's roots in one cut). By AI agents, Wed Nov 11 2026. No macro, syntax, notation, axiom, sorry.
-/
import Derived.Test.YtnjbmpabnceneaaChecked
import GoSem.Claim
import GoSem.ClaimJoined
import GoSem.ClaimMapViews
import Derived.JoinedTies
import Derived.KernelRfl
namespace Go.Proofs.Ytnjbmpabnceneaa
/- THE CELL 'sum', in the pinned program and in every row, IS THE sha256 OF THE DUMP (.gsa) THAT YtnjbmpabnceneaaProg.lean LOADS. Nothing in Lean hashes anything: it is a label: what it is worth is what the hold of that sum in a sandbox is worth. -/
noncomputable def Try.pinned : Pinned := { name := "ytnjbmpabnceneaa", sum := "c587b3234b7f2ca8f5112e364d176f453e8c47841f625fa3680c9b7ce461f852", checked := Try.checked }
namespace Rows
def none {H : Type} : Left H := { results := [], args := [] }

/-- 'laws.FnExactConstants': WHATEVER THE INPUT: true; the input reads as it did. -/
def fnExactConstantsSpec : ChangeSpec := { name := "fnExactConstants", fn := fun _ => fun
  | [] => { results := [.lit (.bool true)], args := [] }
  | _ => none }
def fnExactConstantsRow : OpenClaim := { program := "ytnjbmpabnceneaa", sum := "c587b3234b7f2ca8f5112e364d176f453e8c47841f625fa3680c9b7ce461f852", func := "loop.example/g00168/laws.FnExactConstants", spec := "fnExactConstants", apart := false }
def FnExactConstantsSaid : Prop := fnExactConstantsRow.holds Try.pinned (OpenSpec.ofChange fnExactConstantsSpec)

/-- ITS FALSE NEIGHBOUR: 'it returns false'. Refute it at one input. -/
def fnExactConstantsWrong : ChangeSpec := { name := "fnExactConstants", fn := fun _ => fun
  | [] => { results := [.lit (.bool false)], args := [] }
  | _ => none }
def FnExactConstantsWrongFalsely : Prop := fnExactConstantsRow.holds Try.pinned (OpenSpec.ofChange fnExactConstantsWrong)

/-- 'laws.FnExactCharOK': WHATEVER THE INPUT: true; the input reads as it did. -/
def fnExactCharOKSpec : ChangeSpec := { name := "fnExactCharOK", fn := fun _ => fun
  | [d] => { results := [.lit (.bool true)], args := [d] }
  | _ => none }
def fnExactCharOKRow : OpenClaim := { program := "ytnjbmpabnceneaa", sum := "c587b3234b7f2ca8f5112e364d176f453e8c47841f625fa3680c9b7ce461f852", func := "loop.example/g00168/laws.FnExactCharOK", spec := "fnExactCharOK", apart := false }
def FnExactCharOKSaid : Prop := fnExactCharOKRow.holds Try.pinned (OpenSpec.ofChange fnExactCharOKSpec)

/-- ITS FALSE NEIGHBOUR: 'it returns false'. Refute it at one input. -/
def fnExactCharOKWrong : ChangeSpec := { name := "fnExactCharOK", fn := fun _ => fun
  | [d] => { results := [.lit (.bool false)], args := [d] }
  | _ => none }
def FnExactCharOKWrongFalsely : Prop := fnExactCharOKRow.holds Try.pinned (OpenSpec.ofChange fnExactCharOKWrong)

/-- 'laws.FnExactCodeWord': WHATEVER THE INPUT: true; the input reads as it did. -/
def fnExactCodeWordSpec : ChangeSpec := { name := "fnExactCodeWord", fn := fun _ => fun
  | [d] => { results := [.lit (.bool true)], args := [d] }
  | _ => none }
def fnExactCodeWordRow : OpenClaim := { program := "ytnjbmpabnceneaa", sum := "c587b3234b7f2ca8f5112e364d176f453e8c47841f625fa3680c9b7ce461f852", func := "loop.example/g00168/laws.FnExactCodeWord", spec := "fnExactCodeWord", apart := false }
def FnExactCodeWordSaid : Prop := fnExactCodeWordRow.holds Try.pinned (OpenSpec.ofChange fnExactCodeWordSpec)

/-- ITS FALSE NEIGHBOUR: 'it returns false'. Refute it at one input. -/
def fnExactCodeWordWrong : ChangeSpec := { name := "fnExactCodeWord", fn := fun _ => fun
  | [d] => { results := [.lit (.bool false)], args := [d] }
  | _ => none }
def FnExactCodeWordWrongFalsely : Prop := fnExactCodeWordRow.holds Try.pinned (OpenSpec.ofChange fnExactCodeWordWrong)

/-- 'laws.FnExactCodeOf': WHATEVER THE INPUT: true; the input reads as it did. -/
def fnExactCodeOfSpec : ChangeSpec := { name := "fnExactCodeOf", fn := fun _ => fun
  | [d] => { results := [.lit (.bool true)], args := [d] }
  | _ => none }
def fnExactCodeOfRow : OpenClaim := { program := "ytnjbmpabnceneaa", sum := "c587b3234b7f2ca8f5112e364d176f453e8c47841f625fa3680c9b7ce461f852", func := "loop.example/g00168/laws.FnExactCodeOf", spec := "fnExactCodeOf", apart := false }
def FnExactCodeOfSaid : Prop := fnExactCodeOfRow.holds Try.pinned (OpenSpec.ofChange fnExactCodeOfSpec)

/-- ITS FALSE NEIGHBOUR: 'it returns false'. Refute it at one input. -/
def fnExactCodeOfWrong : ChangeSpec := { name := "fnExactCodeOf", fn := fun _ => fun
  | [d] => { results := [.lit (.bool false)], args := [d] }
  | _ => none }
def FnExactCodeOfWrongFalsely : Prop := fnExactCodeOfRow.holds Try.pinned (OpenSpec.ofChange fnExactCodeOfWrong)

/-- 'laws.FnExactNameOK': WHATEVER THE INPUT: true; the input reads as it did. -/
def fnExactNameOKSpec : ChangeSpec := { name := "fnExactNameOK", fn := fun _ => fun
  | [d] => { results := [.lit (.bool true)], args := [d] }
  | _ => none }
def fnExactNameOKRow : OpenClaim := { program := "ytnjbmpabnceneaa", sum := "c587b3234b7f2ca8f5112e364d176f453e8c47841f625fa3680c9b7ce461f852", func := "loop.example/g00168/laws.FnExactNameOK", spec := "fnExactNameOK", unfollowed := true, recurses := true, apart := false }
def FnExactNameOKSaid : Prop := fnExactNameOKRow.holds Try.pinned (OpenSpec.ofChange fnExactNameOKSpec)

/-- ITS FALSE NEIGHBOUR: 'it returns false'. Refute it at one input. -/
def fnExactNameOKWrong : ChangeSpec := { name := "fnExactNameOK", fn := fun _ => fun
  | [d] => { results := [.lit (.bool false)], args := [d] }
  | _ => none }
def FnExactNameOKWrongFalsely : Prop := fnExactNameOKRow.holds Try.pinned (OpenSpec.ofChange fnExactNameOKWrong)

/-- 'laws.FnExactSize': WHATEVER THE INPUT: true; the input reads as it did. -/
def fnExactSizeSpec : ChangeSpec := { name := "fnExactSize", fn := fun _ => fun
  | [d] => { results := [.lit (.bool true)], args := [d] }
  | _ => none }
def fnExactSizeRow : OpenClaim := { program := "ytnjbmpabnceneaa", sum := "c587b3234b7f2ca8f5112e364d176f453e8c47841f625fa3680c9b7ce461f852", func := "loop.example/g00168/laws.FnExactSize", spec := "fnExactSize", recurses := true, loops := true, apart := false }
def FnExactSizeSaid : Prop := fnExactSizeRow.holds Try.pinned (OpenSpec.ofChange fnExactSizeSpec)

/-- ITS FALSE NEIGHBOUR: 'it returns false'. Refute it at one input. -/
def fnExactSizeWrong : ChangeSpec := { name := "fnExactSize", fn := fun _ => fun
  | [d] => { results := [.lit (.bool false)], args := [d] }
  | _ => none }
def FnExactSizeWrongFalsely : Prop := fnExactSizeRow.holds Try.pinned (OpenSpec.ofChange fnExactSizeWrong)

/-- 'laws.FnExactEndText': WHATEVER THE INPUT: true; the input reads as it did. -/
def fnExactEndTextSpec : ChangeSpec := { name := "fnExactEndText", fn := fun _ => fun
  | [d] => { results := [.lit (.bool true)], args := [d] }
  | _ => none }
def fnExactEndTextRow : OpenClaim := { program := "ytnjbmpabnceneaa", sum := "c587b3234b7f2ca8f5112e364d176f453e8c47841f625fa3680c9b7ce461f852", func := "loop.example/g00168/laws.FnExactEndText", spec := "fnExactEndText", apart := false }
def FnExactEndTextSaid : Prop := fnExactEndTextRow.holds Try.pinned (OpenSpec.ofChange fnExactEndTextSpec)

/-- ITS FALSE NEIGHBOUR: 'it returns false'. Refute it at one input. -/
def fnExactEndTextWrong : ChangeSpec := { name := "fnExactEndText", fn := fun _ => fun
  | [d] => { results := [.lit (.bool false)], args := [d] }
  | _ => none }
def FnExactEndTextWrongFalsely : Prop := fnExactEndTextRow.holds Try.pinned (OpenSpec.ofChange fnExactEndTextWrong)

/- THE SECOND FORM. 'bulk': how many values and letters a reading holds, each counted each time it is reached (what is shared counts as often as it is met; a slice's spare places count too). A statement '..UptoSaid' is the law's where the arguments, and the package variables that the reading takes, are together of bulk at most 1048576: NARROWER than '..Said'. Prove '..Said' where nothing that the law and all that it calls make is longer than what came in: it says more and counts as full. Else prove '..UptoSaid'. A law counts once. -/
mutual
def uptoBulk {H : Type} : DataW H → Nat
  | .lit (.string bytes) => bytes.length + 1
  | .lit _ => 1
  | .nil => 1
  | .ptr d => uptoBulk d + 1
  | .slice elems spare => uptoBulkAll elems + uptoBulkAll spare + 1
  | .agg parts => uptoBulkAll parts + 1
  | .iface _ d => uptoBulk d + 1
  | .map entries => uptoBulkEntries entries + 1
  | .held _ => 1
def uptoBulkAll {H : Type} : List (DataW H) → Nat
  | [] => 0
  | d :: r => uptoBulk d + uptoBulkAll r
def uptoBulkEntries {H : Type} : List (Lit × DataW H) → Nat
  | [] => 0
  | x :: r => uptoBulkEntry x + uptoBulkEntries r
def uptoBulkEntry {H : Type} : Lit × DataW H → Nat
  | (.string bytes, d) => bytes.length + uptoBulk d + 1
  | (_, d) => uptoBulk d + 1
 end
def uptoSmall : (H : Type) → List (DataW H) → Bool := fun _ ds => decide (uptoBulkAll ds ≤ 1048576)
def OpenSpec.upto (s : _root_.Go.ChangeSpec) : _root_.Go.OpenSpec := { _root_.Go.OpenSpec.ofChange s with cond := some uptoSmall }

/-- 'laws.FnExactConstants', WHERE WHAT IT READS IS OF BULK AT MOST 1048576: true; the input reads as it did. -/
def fnExactConstantsUptoRow : OpenClaim := { program := "ytnjbmpabnceneaa", sum := "c587b3234b7f2ca8f5112e364d176f453e8c47841f625fa3680c9b7ce461f852", func := "loop.example/g00168/laws.FnExactConstants", spec := "fnExactConstants", apart := false, narrowed := true }
def FnExactConstantsUptoSaid : Prop := fnExactConstantsUptoRow.holds Try.pinned (OpenSpec.upto fnExactConstantsSpec)

/-- 'laws.FnExactCharOK', WHERE WHAT IT READS IS OF BULK AT MOST 1048576: true; the input reads as it did. -/
def fnExactCharOKUptoRow : OpenClaim := { program := "ytnjbmpabnceneaa", sum := "c587b3234b7f2ca8f5112e364d176f453e8c47841f625fa3680c9b7ce461f852", func := "loop.example/g00168/laws.FnExactCharOK", spec := "fnExactCharOK", apart := false, narrowed := true }
def FnExactCharOKUptoSaid : Prop := fnExactCharOKUptoRow.holds Try.pinned (OpenSpec.upto fnExactCharOKSpec)

/-- 'laws.FnExactCodeWord', WHERE WHAT IT READS IS OF BULK AT MOST 1048576: true; the input reads as it did. -/
def fnExactCodeWordUptoRow : OpenClaim := { program := "ytnjbmpabnceneaa", sum := "c587b3234b7f2ca8f5112e364d176f453e8c47841f625fa3680c9b7ce461f852", func := "loop.example/g00168/laws.FnExactCodeWord", spec := "fnExactCodeWord", apart := false, narrowed := true }
def FnExactCodeWordUptoSaid : Prop := fnExactCodeWordUptoRow.holds Try.pinned (OpenSpec.upto fnExactCodeWordSpec)

/-- 'laws.FnExactCodeOf', WHERE WHAT IT READS IS OF BULK AT MOST 1048576: true; the input reads as it did. -/
def fnExactCodeOfUptoRow : OpenClaim := { program := "ytnjbmpabnceneaa", sum := "c587b3234b7f2ca8f5112e364d176f453e8c47841f625fa3680c9b7ce461f852", func := "loop.example/g00168/laws.FnExactCodeOf", spec := "fnExactCodeOf", apart := false, narrowed := true }
def FnExactCodeOfUptoSaid : Prop := fnExactCodeOfUptoRow.holds Try.pinned (OpenSpec.upto fnExactCodeOfSpec)

/-- 'laws.FnExactNameOK', WHERE WHAT IT READS IS OF BULK AT MOST 1048576: true; the input reads as it did. -/
def fnExactNameOKUptoRow : OpenClaim := { program := "ytnjbmpabnceneaa", sum := "c587b3234b7f2ca8f5112e364d176f453e8c47841f625fa3680c9b7ce461f852", func := "loop.example/g00168/laws.FnExactNameOK", spec := "fnExactNameOK", unfollowed := true, recurses := true, apart := false, narrowed := true }
def FnExactNameOKUptoSaid : Prop := fnExactNameOKUptoRow.holds Try.pinned (OpenSpec.upto fnExactNameOKSpec)

/-- 'laws.FnExactSize', WHERE WHAT IT READS IS OF BULK AT MOST 1048576: true; the input reads as it did. -/
def fnExactSizeUptoRow : OpenClaim := { program := "ytnjbmpabnceneaa", sum := "c587b3234b7f2ca8f5112e364d176f453e8c47841f625fa3680c9b7ce461f852", func := "loop.example/g00168/laws.FnExactSize", spec := "fnExactSize", recurses := true, loops := true, apart := false, narrowed := true }
def FnExactSizeUptoSaid : Prop := fnExactSizeUptoRow.holds Try.pinned (OpenSpec.upto fnExactSizeSpec)

/-- 'laws.FnExactEndText', WHERE WHAT IT READS IS OF BULK AT MOST 1048576: true; the input reads as it did. -/
def fnExactEndTextUptoRow : OpenClaim := { program := "ytnjbmpabnceneaa", sum := "c587b3234b7f2ca8f5112e364d176f453e8c47841f625fa3680c9b7ce461f852", func := "loop.example/g00168/laws.FnExactEndText", spec := "fnExactEndText", apart := false, narrowed := true }
def FnExactEndTextUptoSaid : Prop := fnExactEndTextUptoRow.holds Try.pinned (OpenSpec.upto fnExactEndTextSpec)

end Rows
end Go.Proofs.Ytnjbmpabnceneaa
