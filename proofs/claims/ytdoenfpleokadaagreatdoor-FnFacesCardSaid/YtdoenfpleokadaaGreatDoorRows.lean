/-
  NARROWER THAN 'FOR EVERY INPUT', by the rows' own cells (each row's printed sentence says how): FnExactPrintOf: laid · FnExactReadInterface: laid · FnExactInterfaceBytes: laid · FnExactOrder: loops, laid · FnExactEntryOK: laid · FnExactObjectOK: laid · FnExactReadObject: laid · FnExactObjectBytes: laid · FnFaces: laid.
  DERIVED. THE GIVEN ROWS OF THIS SEAT. 9 by the template 'for every input the law returns true; each argument reads behind the call as it read before'; 0 by the template 'total and deterministic' (their statements: YtdoenfpleokadaaGreatDoorTotals.lean).
  GIVEN WITH THE SEED: the statements are not yours to turn. If you find one false, say at which input.
  Laid BY PROGRAM, IN A SANDBOX (cutbox-rows.mjs): the forced cells as the released guide's own fill.sh prints them over the translation 1aeb2e9981172e60… (all of the seat's roots in one cut). By AI agents, Wed Nov 11 2026. No macro, syntax, notation, axiom, sorry.
-/
import Derived.Test.YtdoenfpleokadaaGreatDoorChecked
import GoSem.Claim
import GoSem.ClaimJoined
import GoSem.ClaimMapViews
import Derived.JoinedTies
import Derived.KernelRfl
namespace Go.Proofs.YtdoenfpleokadaaGreatDoor
/- THE CELL 'sum', in the pinned program and in every row, IS THE sha256 OF THE DUMP (.gsa) THAT YtdoenfpleokadaaGreatDoorProg.lean LOADS. Nothing in Lean hashes anything: it is a label: what it is worth is what the hold of that sum in a sandbox is worth. -/
noncomputable def Tryz.pinned : Pinned := { name := "ytdoenfpleokadaagreatdoor", sum := "1aeb2e9981172e606f6a1ec1493152c56d3169a26a8fd385d47ad4476bbd39d0", checked := Tryz.checked }
namespace Rows
def none {H : Type} : Left H := { results := [], args := [] }

/- WHAT THE LISTED PACKAGE-LEVEL VARIABLES READ AS WHEN THE CALL BEGINS. Each datum BY PROGRAM (the guide's laid-datum.mjs) off the statement by which the dump's own 'gosem.cut.vars' lays the variable. In a bare row this is a premise. The card (YtdoenfpleokadaaGreatDoorCards.lean) ties it to the program's text. -/
def laid_unicode_White_Space {H : Type} : DataW H := .ptr (.agg [.slice [.agg [.lit (.int .u16 9), .lit (.int .u16 13), .lit (.int .u16 1)], .agg [.lit (.int .u16 32), .lit (.int .u16 133), .lit (.int .u16 101)], .agg [.lit (.int .u16 160), .lit (.int .u16 5760), .lit (.int .u16 5600)], .agg [.lit (.int .u16 8192), .lit (.int .u16 8202), .lit (.int .u16 1)], .agg [.lit (.int .u16 8232), .lit (.int .u16 8233), .lit (.int .u16 1)], .agg [.lit (.int .u16 8239), .lit (.int .u16 8287), .lit (.int .u16 48)], .agg [.lit (.int .u16 12288), .lit (.int .u16 12288), .lit (.int .u16 1)]] [], .nil, .lit (.int .i64 2)])
def laid_strings_asciiSpace {H : Type} : DataW H := .agg [.lit (.int .u8 0), .lit (.int .u8 0), .lit (.int .u8 0), .lit (.int .u8 0), .lit (.int .u8 0), .lit (.int .u8 0), .lit (.int .u8 0), .lit (.int .u8 0), .lit (.int .u8 0), .lit (.int .u8 1), .lit (.int .u8 1), .lit (.int .u8 1), .lit (.int .u8 1), .lit (.int .u8 1), .lit (.int .u8 0), .lit (.int .u8 0), .lit (.int .u8 0), .lit (.int .u8 0), .lit (.int .u8 0), .lit (.int .u8 0), .lit (.int .u8 0), .lit (.int .u8 0), .lit (.int .u8 0), .lit (.int .u8 0), .lit (.int .u8 0), .lit (.int .u8 0), .lit (.int .u8 0), .lit (.int .u8 0), .lit (.int .u8 0), .lit (.int .u8 0), .lit (.int .u8 0), .lit (.int .u8 0), .lit (.int .u8 1), .lit (.int .u8 0), .lit (.int .u8 0), .lit (.int .u8 0), .lit (.int .u8 0), .lit (.int .u8 0), .lit (.int .u8 0), .lit (.int .u8 0), .lit (.int .u8 0), .lit (.int .u8 0), .lit (.int .u8 0), .lit (.int .u8 0), .lit (.int .u8 0), .lit (.int .u8 0), .lit (.int .u8 0), .lit (.int .u8 0), .lit (.int .u8 0), .lit (.int .u8 0), .lit (.int .u8 0), .lit (.int .u8 0), .lit (.int .u8 0), .lit (.int .u8 0), .lit (.int .u8 0), .lit (.int .u8 0), .lit (.int .u8 0), .lit (.int .u8 0), .lit (.int .u8 0), .lit (.int .u8 0), .lit (.int .u8 0), .lit (.int .u8 0), .lit (.int .u8 0), .lit (.int .u8 0), .lit (.int .u8 0), .lit (.int .u8 0), .lit (.int .u8 0), .lit (.int .u8 0), .lit (.int .u8 0), .lit (.int .u8 0), .lit (.int .u8 0), .lit (.int .u8 0), .lit (.int .u8 0), .lit (.int .u8 0), .lit (.int .u8 0), .lit (.int .u8 0), .lit (.int .u8 0), .lit (.int .u8 0), .lit (.int .u8 0), .lit (.int .u8 0), .lit (.int .u8 0), .lit (.int .u8 0), .lit (.int .u8 0), .lit (.int .u8 0), .lit (.int .u8 0), .lit (.int .u8 0), .lit (.int .u8 0), .lit (.int .u8 0), .lit (.int .u8 0), .lit (.int .u8 0), .lit (.int .u8 0), .lit (.int .u8 0), .lit (.int .u8 0), .lit (.int .u8 0), .lit (.int .u8 0), .lit (.int .u8 0), .lit (.int .u8 0), .lit (.int .u8 0), .lit (.int .u8 0), .lit (.int .u8 0), .lit (.int .u8 0), .lit (.int .u8 0), .lit (.int .u8 0), .lit (.int .u8 0), .lit (.int .u8 0), .lit (.int .u8 0), .lit (.int .u8 0), .lit (.int .u8 0), .lit (.int .u8 0), .lit (.int .u8 0), .lit (.int .u8 0), .lit (.int .u8 0), .lit (.int .u8 0), .lit (.int .u8 0), .lit (.int .u8 0), .lit (.int .u8 0), .lit (.int .u8 0), .lit (.int .u8 0), .lit (.int .u8 0), .lit (.int .u8 0), .lit (.int .u8 0), .lit (.int .u8 0), .lit (.int .u8 0), .lit (.int .u8 0), .lit (.int .u8 0), .lit (.int .u8 0), .lit (.int .u8 0), .lit (.int .u8 0), .lit (.int .u8 0), .lit (.int .u8 0), .lit (.int .u8 0), .lit (.int .u8 0), .lit (.int .u8 0), .lit (.int .u8 0), .lit (.int .u8 0), .lit (.int .u8 0), .lit (.int .u8 0), .lit (.int .u8 0), .lit (.int .u8 0), .lit (.int .u8 0), .lit (.int .u8 0), .lit (.int .u8 0), .lit (.int .u8 0), .lit (.int .u8 0), .lit (.int .u8 0), .lit (.int .u8 0), .lit (.int .u8 0), .lit (.int .u8 0), .lit (.int .u8 0), .lit (.int .u8 0), .lit (.int .u8 0), .lit (.int .u8 0), .lit (.int .u8 0), .lit (.int .u8 0), .lit (.int .u8 0), .lit (.int .u8 0), .lit (.int .u8 0), .lit (.int .u8 0), .lit (.int .u8 0), .lit (.int .u8 0), .lit (.int .u8 0), .lit (.int .u8 0), .lit (.int .u8 0), .lit (.int .u8 0), .lit (.int .u8 0), .lit (.int .u8 0), .lit (.int .u8 0), .lit (.int .u8 0), .lit (.int .u8 0), .lit (.int .u8 0), .lit (.int .u8 0), .lit (.int .u8 0), .lit (.int .u8 0), .lit (.int .u8 0), .lit (.int .u8 0), .lit (.int .u8 0), .lit (.int .u8 0), .lit (.int .u8 0), .lit (.int .u8 0), .lit (.int .u8 0), .lit (.int .u8 0), .lit (.int .u8 0), .lit (.int .u8 0), .lit (.int .u8 0), .lit (.int .u8 0), .lit (.int .u8 0), .lit (.int .u8 0), .lit (.int .u8 0), .lit (.int .u8 0), .lit (.int .u8 0), .lit (.int .u8 0), .lit (.int .u8 0), .lit (.int .u8 0), .lit (.int .u8 0), .lit (.int .u8 0), .lit (.int .u8 0), .lit (.int .u8 0), .lit (.int .u8 0), .lit (.int .u8 0), .lit (.int .u8 0), .lit (.int .u8 0), .lit (.int .u8 0), .lit (.int .u8 0), .lit (.int .u8 0), .lit (.int .u8 0), .lit (.int .u8 0), .lit (.int .u8 0), .lit (.int .u8 0), .lit (.int .u8 0), .lit (.int .u8 0), .lit (.int .u8 0), .lit (.int .u8 0), .lit (.int .u8 0), .lit (.int .u8 0), .lit (.int .u8 0), .lit (.int .u8 0), .lit (.int .u8 0), .lit (.int .u8 0), .lit (.int .u8 0), .lit (.int .u8 0), .lit (.int .u8 0), .lit (.int .u8 0), .lit (.int .u8 0), .lit (.int .u8 0), .lit (.int .u8 0), .lit (.int .u8 0), .lit (.int .u8 0), .lit (.int .u8 0), .lit (.int .u8 0), .lit (.int .u8 0), .lit (.int .u8 0), .lit (.int .u8 0), .lit (.int .u8 0), .lit (.int .u8 0), .lit (.int .u8 0), .lit (.int .u8 0), .lit (.int .u8 0), .lit (.int .u8 0), .lit (.int .u8 0), .lit (.int .u8 0), .lit (.int .u8 0), .lit (.int .u8 0), .lit (.int .u8 0), .lit (.int .u8 0), .lit (.int .u8 0), .lit (.int .u8 0), .lit (.int .u8 0), .lit (.int .u8 0), .lit (.int .u8 0), .lit (.int .u8 0), .lit (.int .u8 0), .lit (.int .u8 0), .lit (.int .u8 0), .lit (.int .u8 0), .lit (.int .u8 0), .lit (.int .u8 0)]

/-- 'laws.FnExactPrintOf': WHATEVER THE INPUT: true; the input reads as it did. -/
def fnExactPrintOfSpec : ChangeSpec := { name := "fnExactPrintOf", fn := fun _ => fun
  | [d] => { results := [.lit (.bool true)], args := [d] }
  | _ => none }
def fnExactPrintOfRow : OpenClaim := { program := "ytdoenfpleokadaagreatdoor", sum := "1aeb2e9981172e606f6a1ec1493152c56d3169a26a8fd385d47ad4476bbd39d0", func := "loop.example/g00168/laws.FnExactPrintOf", spec := "fnExactPrintOf", inPlace := ["internal/abi.NoEscape"], unfollowed := true, recurses := true, named := ["strings.asciiSpace", "unicode.White_Space"], apart := false, laid := [("unicode.White_Space", laid_unicode_White_Space), ("strings.asciiSpace", laid_strings_asciiSpace)] }
def FnExactPrintOfSaid : Prop := fnExactPrintOfRow.holds Tryz.pinned (OpenSpec.ofChange fnExactPrintOfSpec)

/-- ITS FALSE NEIGHBOUR: 'it returns false'. Refute it at one input. -/
def fnExactPrintOfWrong : ChangeSpec := { name := "fnExactPrintOf", fn := fun _ => fun
  | [d] => { results := [.lit (.bool false)], args := [d] }
  | _ => none }
def FnExactPrintOfWrongFalsely : Prop := fnExactPrintOfRow.holds Tryz.pinned (OpenSpec.ofChange fnExactPrintOfWrong)

/-- 'laws.FnExactReadInterface': WHATEVER THE INPUT: true; the input reads as it did. -/
def fnExactReadInterfaceSpec : ChangeSpec := { name := "fnExactReadInterface", fn := fun _ => fun
  | [d] => { results := [.lit (.bool true)], args := [d] }
  | _ => none }
def fnExactReadInterfaceRow : OpenClaim := { program := "ytdoenfpleokadaagreatdoor", sum := "1aeb2e9981172e606f6a1ec1493152c56d3169a26a8fd385d47ad4476bbd39d0", func := "loop.example/g00168/laws.FnExactReadInterface", spec := "fnExactReadInterface", unfollowed := true, recurses := true, named := ["strings.asciiSpace", "unicode.White_Space"], apart := false, laid := [("unicode.White_Space", laid_unicode_White_Space), ("strings.asciiSpace", laid_strings_asciiSpace)] }
def FnExactReadInterfaceSaid : Prop := fnExactReadInterfaceRow.holds Tryz.pinned (OpenSpec.ofChange fnExactReadInterfaceSpec)

/-- ITS FALSE NEIGHBOUR: 'it returns false'. Refute it at one input. -/
def fnExactReadInterfaceWrong : ChangeSpec := { name := "fnExactReadInterface", fn := fun _ => fun
  | [d] => { results := [.lit (.bool false)], args := [d] }
  | _ => none }
def FnExactReadInterfaceWrongFalsely : Prop := fnExactReadInterfaceRow.holds Tryz.pinned (OpenSpec.ofChange fnExactReadInterfaceWrong)

/-- 'laws.FnExactInterfaceBytes': WHATEVER THE INPUT: true; the input reads as it did. -/
def fnExactInterfaceBytesSpec : ChangeSpec := { name := "fnExactInterfaceBytes", fn := fun _ => fun
  | [d] => { results := [.lit (.bool true)], args := [d] }
  | _ => none }
def fnExactInterfaceBytesRow : OpenClaim := { program := "ytdoenfpleokadaagreatdoor", sum := "1aeb2e9981172e606f6a1ec1493152c56d3169a26a8fd385d47ad4476bbd39d0", func := "loop.example/g00168/laws.FnExactInterfaceBytes", spec := "fnExactInterfaceBytes", inPlace := ["internal/abi.NoEscape"], unfollowed := true, recurses := true, named := ["strings.asciiSpace", "unicode.White_Space"], apart := false, laid := [("unicode.White_Space", laid_unicode_White_Space), ("strings.asciiSpace", laid_strings_asciiSpace)] }
def FnExactInterfaceBytesSaid : Prop := fnExactInterfaceBytesRow.holds Tryz.pinned (OpenSpec.ofChange fnExactInterfaceBytesSpec)

/-- ITS FALSE NEIGHBOUR: 'it returns false'. Refute it at one input. -/
def fnExactInterfaceBytesWrong : ChangeSpec := { name := "fnExactInterfaceBytes", fn := fun _ => fun
  | [d] => { results := [.lit (.bool false)], args := [d] }
  | _ => none }
def FnExactInterfaceBytesWrongFalsely : Prop := fnExactInterfaceBytesRow.holds Tryz.pinned (OpenSpec.ofChange fnExactInterfaceBytesWrong)

/-- 'laws.FnExactOrder': WHATEVER THE INPUT: true; the input reads as it did. -/
def fnExactOrderSpec : ChangeSpec := { name := "fnExactOrder", fn := fun _ => fun
  | [d1, d2] => { results := [.lit (.bool true)], args := [d1, d2] }
  | _ => none }
def fnExactOrderRow : OpenClaim := { program := "ytdoenfpleokadaagreatdoor", sum := "1aeb2e9981172e606f6a1ec1493152c56d3169a26a8fd385d47ad4476bbd39d0", func := "loop.example/g00168/laws.FnExactOrder", spec := "fnExactOrder", unfollowed := true, recurses := true, named := ["strings.asciiSpace", "unicode.White_Space"], loops := true, apart := false, laid := [("unicode.White_Space", laid_unicode_White_Space), ("strings.asciiSpace", laid_strings_asciiSpace)] }
def FnExactOrderSaid : Prop := fnExactOrderRow.holds Tryz.pinned (OpenSpec.ofChange fnExactOrderSpec)

/-- ITS FALSE NEIGHBOUR: 'it returns false'. Refute it at one input. -/
def fnExactOrderWrong : ChangeSpec := { name := "fnExactOrder", fn := fun _ => fun
  | [d1, d2] => { results := [.lit (.bool false)], args := [d1, d2] }
  | _ => none }
def FnExactOrderWrongFalsely : Prop := fnExactOrderRow.holds Tryz.pinned (OpenSpec.ofChange fnExactOrderWrong)

/-- 'laws.FnExactEntryOK': WHATEVER THE INPUT: true; the input reads as it did. -/
def fnExactEntryOKSpec : ChangeSpec := { name := "fnExactEntryOK", fn := fun _ => fun
  | [d] => { results := [.lit (.bool true)], args := [d] }
  | _ => none }
def fnExactEntryOKRow : OpenClaim := { program := "ytdoenfpleokadaagreatdoor", sum := "1aeb2e9981172e606f6a1ec1493152c56d3169a26a8fd385d47ad4476bbd39d0", func := "loop.example/g00168/laws.FnExactEntryOK", spec := "fnExactEntryOK", unfollowed := true, recurses := true, named := ["strings.asciiSpace", "unicode.White_Space"], apart := false, laid := [("unicode.White_Space", laid_unicode_White_Space), ("strings.asciiSpace", laid_strings_asciiSpace)] }
def FnExactEntryOKSaid : Prop := fnExactEntryOKRow.holds Tryz.pinned (OpenSpec.ofChange fnExactEntryOKSpec)

/-- ITS FALSE NEIGHBOUR: 'it returns false'. Refute it at one input. -/
def fnExactEntryOKWrong : ChangeSpec := { name := "fnExactEntryOK", fn := fun _ => fun
  | [d] => { results := [.lit (.bool false)], args := [d] }
  | _ => none }
def FnExactEntryOKWrongFalsely : Prop := fnExactEntryOKRow.holds Tryz.pinned (OpenSpec.ofChange fnExactEntryOKWrong)

/-- 'laws.FnExactObjectOK': WHATEVER THE INPUT: true; the input reads as it did. -/
def fnExactObjectOKSpec : ChangeSpec := { name := "fnExactObjectOK", fn := fun _ => fun
  | [d] => { results := [.lit (.bool true)], args := [d] }
  | _ => none }
def fnExactObjectOKRow : OpenClaim := { program := "ytdoenfpleokadaagreatdoor", sum := "1aeb2e9981172e606f6a1ec1493152c56d3169a26a8fd385d47ad4476bbd39d0", func := "loop.example/g00168/laws.FnExactObjectOK", spec := "fnExactObjectOK", unfollowed := true, recurses := true, named := ["strings.asciiSpace", "unicode.White_Space"], apart := false, laid := [("unicode.White_Space", laid_unicode_White_Space), ("strings.asciiSpace", laid_strings_asciiSpace)] }
def FnExactObjectOKSaid : Prop := fnExactObjectOKRow.holds Tryz.pinned (OpenSpec.ofChange fnExactObjectOKSpec)

/-- ITS FALSE NEIGHBOUR: 'it returns false'. Refute it at one input. -/
def fnExactObjectOKWrong : ChangeSpec := { name := "fnExactObjectOK", fn := fun _ => fun
  | [d] => { results := [.lit (.bool false)], args := [d] }
  | _ => none }
def FnExactObjectOKWrongFalsely : Prop := fnExactObjectOKRow.holds Tryz.pinned (OpenSpec.ofChange fnExactObjectOKWrong)

/-- 'laws.FnExactReadObject': WHATEVER THE INPUT: true; the input reads as it did. -/
def fnExactReadObjectSpec : ChangeSpec := { name := "fnExactReadObject", fn := fun _ => fun
  | [d] => { results := [.lit (.bool true)], args := [d] }
  | _ => none }
def fnExactReadObjectRow : OpenClaim := { program := "ytdoenfpleokadaagreatdoor", sum := "1aeb2e9981172e606f6a1ec1493152c56d3169a26a8fd385d47ad4476bbd39d0", func := "loop.example/g00168/laws.FnExactReadObject", spec := "fnExactReadObject", unfollowed := true, recurses := true, named := ["strings.asciiSpace", "unicode.White_Space"], apart := false, laid := [("unicode.White_Space", laid_unicode_White_Space), ("strings.asciiSpace", laid_strings_asciiSpace)] }
def FnExactReadObjectSaid : Prop := fnExactReadObjectRow.holds Tryz.pinned (OpenSpec.ofChange fnExactReadObjectSpec)

/-- ITS FALSE NEIGHBOUR: 'it returns false'. Refute it at one input. -/
def fnExactReadObjectWrong : ChangeSpec := { name := "fnExactReadObject", fn := fun _ => fun
  | [d] => { results := [.lit (.bool false)], args := [d] }
  | _ => none }
def FnExactReadObjectWrongFalsely : Prop := fnExactReadObjectRow.holds Tryz.pinned (OpenSpec.ofChange fnExactReadObjectWrong)

/-- 'laws.FnExactObjectBytes': WHATEVER THE INPUT: true; the input reads as it did. -/
def fnExactObjectBytesSpec : ChangeSpec := { name := "fnExactObjectBytes", fn := fun _ => fun
  | [d] => { results := [.lit (.bool true)], args := [d] }
  | _ => none }
def fnExactObjectBytesRow : OpenClaim := { program := "ytdoenfpleokadaagreatdoor", sum := "1aeb2e9981172e606f6a1ec1493152c56d3169a26a8fd385d47ad4476bbd39d0", func := "loop.example/g00168/laws.FnExactObjectBytes", spec := "fnExactObjectBytes", inPlace := ["internal/abi.NoEscape"], unfollowed := true, recurses := true, named := ["strings.asciiSpace", "unicode.White_Space"], apart := false, laid := [("unicode.White_Space", laid_unicode_White_Space), ("strings.asciiSpace", laid_strings_asciiSpace)] }
def FnExactObjectBytesSaid : Prop := fnExactObjectBytesRow.holds Tryz.pinned (OpenSpec.ofChange fnExactObjectBytesSpec)

/-- ITS FALSE NEIGHBOUR: 'it returns false'. Refute it at one input. -/
def fnExactObjectBytesWrong : ChangeSpec := { name := "fnExactObjectBytes", fn := fun _ => fun
  | [d] => { results := [.lit (.bool false)], args := [d] }
  | _ => none }
def FnExactObjectBytesWrongFalsely : Prop := fnExactObjectBytesRow.holds Tryz.pinned (OpenSpec.ofChange fnExactObjectBytesWrong)

/-- 'laws.FnFaces': WHATEVER THE INPUT: true; the input reads as it did. -/
def fnFacesSpec : ChangeSpec := { name := "fnFaces", fn := fun _ => fun
  | [d1, d2] => { results := [.lit (.bool true)], args := [d1, d2] }
  | _ => none }
def fnFacesRow : OpenClaim := { program := "ytdoenfpleokadaagreatdoor", sum := "1aeb2e9981172e606f6a1ec1493152c56d3169a26a8fd385d47ad4476bbd39d0", func := "loop.example/g00168/laws.FnFaces", spec := "fnFaces", inPlace := ["internal/abi.NoEscape"], unfollowed := true, recurses := true, named := ["strings.asciiSpace", "unicode.White_Space"], apart := false, laid := [("unicode.White_Space", laid_unicode_White_Space), ("strings.asciiSpace", laid_strings_asciiSpace)] }
def FnFacesSaid : Prop := fnFacesRow.holds Tryz.pinned (OpenSpec.ofChange fnFacesSpec)

/-- ITS FALSE NEIGHBOUR: 'it returns false'. Refute it at one input. -/
def fnFacesWrong : ChangeSpec := { name := "fnFaces", fn := fun _ => fun
  | [d1, d2] => { results := [.lit (.bool false)], args := [d1, d2] }
  | _ => none }
def FnFacesWrongFalsely : Prop := fnFacesRow.holds Tryz.pinned (OpenSpec.ofChange fnFacesWrong)

/- THE SECOND FORM. 'bulk': how many values and letters a reading holds, each counted each time it is reached (what is shared counts as often as it is met; a slice's spare places count too). A statement '..UptoSaid' is the law's where the arguments, and the package variables that the reading takes, are together of bulk at most 1048576: NARROWER than '..Said'. Prove '..Said' where nothing that the law and all that it calls make is longer than what came in: it says more and counts as full. Else prove '..UptoSaid'. A law counts once. -/
mutual
def uptoBulk {H : Type} : DataW H → Nat
  | .lit (.string bytes) => bytes.length + 1
  | .lit _ => 1
  | .nil => 1
  | .ptr d => uptoBulk d + 1
  | .slice elems spare => uptoBulkAll elems + uptoBulkAll spare + 1
  | .agg parts => uptoBulkAll parts + 1
  | .iface _ d => uptoBulk d + 1
  | .map entries => uptoBulkEntries entries + 1
  | .held _ => 1
def uptoBulkAll {H : Type} : List (DataW H) → Nat
  | [] => 0
  | d :: r => uptoBulk d + uptoBulkAll r
def uptoBulkEntries {H : Type} : List (Lit × DataW H) → Nat
  | [] => 0
  | x :: r => uptoBulkEntry x + uptoBulkEntries r
def uptoBulkEntry {H : Type} : Lit × DataW H → Nat
  | (.string bytes, d) => bytes.length + uptoBulk d + 1
  | (_, d) => uptoBulk d + 1
 end
def uptoSmall : (H : Type) → List (DataW H) → Bool := fun _ ds => decide (uptoBulkAll ds ≤ 1048576)
def OpenSpec.upto (s : _root_.Go.ChangeSpec) : _root_.Go.OpenSpec := { _root_.Go.OpenSpec.ofChange s with cond := some uptoSmall }

/-- 'laws.FnExactPrintOf', WHERE WHAT IT READS IS OF BULK AT MOST 1048576: true; the input reads as it did. -/
def fnExactPrintOfUptoRow : OpenClaim := { program := "ytdoenfpleokadaagreatdoor", sum := "1aeb2e9981172e606f6a1ec1493152c56d3169a26a8fd385d47ad4476bbd39d0", func := "loop.example/g00168/laws.FnExactPrintOf", spec := "fnExactPrintOf", inPlace := ["internal/abi.NoEscape"], unfollowed := true, recurses := true, named := ["strings.asciiSpace", "unicode.White_Space"], apart := false, laid := [("unicode.White_Space", laid_unicode_White_Space), ("strings.asciiSpace", laid_strings_asciiSpace)], narrowed := true }
def FnExactPrintOfUptoSaid : Prop := fnExactPrintOfUptoRow.holds Tryz.pinned (OpenSpec.upto fnExactPrintOfSpec)

/-- 'laws.FnExactReadInterface', WHERE WHAT IT READS IS OF BULK AT MOST 1048576: true; the input reads as it did. -/
def fnExactReadInterfaceUptoRow : OpenClaim := { program := "ytdoenfpleokadaagreatdoor", sum := "1aeb2e9981172e606f6a1ec1493152c56d3169a26a8fd385d47ad4476bbd39d0", func := "loop.example/g00168/laws.FnExactReadInterface", spec := "fnExactReadInterface", unfollowed := true, recurses := true, named := ["strings.asciiSpace", "unicode.White_Space"], apart := false, laid := [("unicode.White_Space", laid_unicode_White_Space), ("strings.asciiSpace", laid_strings_asciiSpace)], narrowed := true }
def FnExactReadInterfaceUptoSaid : Prop := fnExactReadInterfaceUptoRow.holds Tryz.pinned (OpenSpec.upto fnExactReadInterfaceSpec)

/-- 'laws.FnExactInterfaceBytes', WHERE WHAT IT READS IS OF BULK AT MOST 1048576: true; the input reads as it did. -/
def fnExactInterfaceBytesUptoRow : OpenClaim := { program := "ytdoenfpleokadaagreatdoor", sum := "1aeb2e9981172e606f6a1ec1493152c56d3169a26a8fd385d47ad4476bbd39d0", func := "loop.example/g00168/laws.FnExactInterfaceBytes", spec := "fnExactInterfaceBytes", inPlace := ["internal/abi.NoEscape"], unfollowed := true, recurses := true, named := ["strings.asciiSpace", "unicode.White_Space"], apart := false, laid := [("unicode.White_Space", laid_unicode_White_Space), ("strings.asciiSpace", laid_strings_asciiSpace)], narrowed := true }
def FnExactInterfaceBytesUptoSaid : Prop := fnExactInterfaceBytesUptoRow.holds Tryz.pinned (OpenSpec.upto fnExactInterfaceBytesSpec)

/-- 'laws.FnExactOrder', WHERE WHAT IT READS IS OF BULK AT MOST 1048576: true; the input reads as it did. -/
def fnExactOrderUptoRow : OpenClaim := { program := "ytdoenfpleokadaagreatdoor", sum := "1aeb2e9981172e606f6a1ec1493152c56d3169a26a8fd385d47ad4476bbd39d0", func := "loop.example/g00168/laws.FnExactOrder", spec := "fnExactOrder", unfollowed := true, recurses := true, named := ["strings.asciiSpace", "unicode.White_Space"], loops := true, apart := false, laid := [("unicode.White_Space", laid_unicode_White_Space), ("strings.asciiSpace", laid_strings_asciiSpace)], narrowed := true }
def FnExactOrderUptoSaid : Prop := fnExactOrderUptoRow.holds Tryz.pinned (OpenSpec.upto fnExactOrderSpec)

/-- 'laws.FnExactEntryOK', WHERE WHAT IT READS IS OF BULK AT MOST 1048576: true; the input reads as it did. -/
def fnExactEntryOKUptoRow : OpenClaim := { program := "ytdoenfpleokadaagreatdoor", sum := "1aeb2e9981172e606f6a1ec1493152c56d3169a26a8fd385d47ad4476bbd39d0", func := "loop.example/g00168/laws.FnExactEntryOK", spec := "fnExactEntryOK", unfollowed := true, recurses := true, named := ["strings.asciiSpace", "unicode.White_Space"], apart := false, laid := [("unicode.White_Space", laid_unicode_White_Space), ("strings.asciiSpace", laid_strings_asciiSpace)], narrowed := true }
def FnExactEntryOKUptoSaid : Prop := fnExactEntryOKUptoRow.holds Tryz.pinned (OpenSpec.upto fnExactEntryOKSpec)

/-- 'laws.FnExactObjectOK', WHERE WHAT IT READS IS OF BULK AT MOST 1048576: true; the input reads as it did. -/
def fnExactObjectOKUptoRow : OpenClaim := { program := "ytdoenfpleokadaagreatdoor", sum := "1aeb2e9981172e606f6a1ec1493152c56d3169a26a8fd385d47ad4476bbd39d0", func := "loop.example/g00168/laws.FnExactObjectOK", spec := "fnExactObjectOK", unfollowed := true, recurses := true, named := ["strings.asciiSpace", "unicode.White_Space"], apart := false, laid := [("unicode.White_Space", laid_unicode_White_Space), ("strings.asciiSpace", laid_strings_asciiSpace)], narrowed := true }
def FnExactObjectOKUptoSaid : Prop := fnExactObjectOKUptoRow.holds Tryz.pinned (OpenSpec.upto fnExactObjectOKSpec)

/-- 'laws.FnExactReadObject', WHERE WHAT IT READS IS OF BULK AT MOST 1048576: true; the input reads as it did. -/
def fnExactReadObjectUptoRow : OpenClaim := { program := "ytdoenfpleokadaagreatdoor", sum := "1aeb2e9981172e606f6a1ec1493152c56d3169a26a8fd385d47ad4476bbd39d0", func := "loop.example/g00168/laws.FnExactReadObject", spec := "fnExactReadObject", unfollowed := true, recurses := true, named := ["strings.asciiSpace", "unicode.White_Space"], apart := false, laid := [("unicode.White_Space", laid_unicode_White_Space), ("strings.asciiSpace", laid_strings_asciiSpace)], narrowed := true }
def FnExactReadObjectUptoSaid : Prop := fnExactReadObjectUptoRow.holds Tryz.pinned (OpenSpec.upto fnExactReadObjectSpec)

/-- 'laws.FnExactObjectBytes', WHERE WHAT IT READS IS OF BULK AT MOST 1048576: true; the input reads as it did. -/
def fnExactObjectBytesUptoRow : OpenClaim := { program := "ytdoenfpleokadaagreatdoor", sum := "1aeb2e9981172e606f6a1ec1493152c56d3169a26a8fd385d47ad4476bbd39d0", func := "loop.example/g00168/laws.FnExactObjectBytes", spec := "fnExactObjectBytes", inPlace := ["internal/abi.NoEscape"], unfollowed := true, recurses := true, named := ["strings.asciiSpace", "unicode.White_Space"], apart := false, laid := [("unicode.White_Space", laid_unicode_White_Space), ("strings.asciiSpace", laid_strings_asciiSpace)], narrowed := true }
def FnExactObjectBytesUptoSaid : Prop := fnExactObjectBytesUptoRow.holds Tryz.pinned (OpenSpec.upto fnExactObjectBytesSpec)

/-- 'laws.FnFaces', WHERE WHAT IT READS IS OF BULK AT MOST 1048576: true; the input reads as it did. -/
def fnFacesUptoRow : OpenClaim := { program := "ytdoenfpleokadaagreatdoor", sum := "1aeb2e9981172e606f6a1ec1493152c56d3169a26a8fd385d47ad4476bbd39d0", func := "loop.example/g00168/laws.FnFaces", spec := "fnFaces", inPlace := ["internal/abi.NoEscape"], unfollowed := true, recurses := true, named := ["strings.asciiSpace", "unicode.White_Space"], apart := false, laid := [("unicode.White_Space", laid_unicode_White_Space), ("strings.asciiSpace", laid_strings_asciiSpace)], narrowed := true }
def FnFacesUptoSaid : Prop := fnFacesUptoRow.holds Tryz.pinned (OpenSpec.upto fnFacesSpec)

end Rows
end Go.Proofs.YtdoenfpleokadaaGreatDoor
