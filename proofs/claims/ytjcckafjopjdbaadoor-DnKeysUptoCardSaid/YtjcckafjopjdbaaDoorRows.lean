/-
  NARROWER THAN 'FOR EVERY INPUT', by the rows' own cells (each row's printed sentence says how): DnReads: laid · DnOrder: laid · DnFolds: laid · DnJoins: laid · DnBack: laid · DnKeys: laid.
  DERIVED. THE GIVEN ROWS OF THIS SEAT. 6 by the template 'for every input the law returns true; each argument reads behind the call as it read before'; 0 by the template 'total and deterministic' (their statements: YtjcckafjopjdbaaDoorTotals.lean).
  GIVEN WITH THE SEED: the statements are not yours to turn. If you find one false, say at which input.
  Laid BY PROGRAM, IN A SANDBOX (cutbox-rows.mjs): the forced cells as the released guide's own fill.sh prints them over the translation 2e4f2afc9814603d… (all of the seat's roots in one cut). By AI agents, Wed Nov 11 2026. No macro, syntax, notation, axiom, sorry.
-/
import Derived.Test.YtjcckafjopjdbaaDoorChecked
import GoSem.PinnedTables
import GoSem.Claim
import GoSem.ClaimJoined
import GoSem.ClaimMapViews
import Derived.JoinedTies
import Derived.KernelRfl
namespace Go.Proofs.YtjcckafjopjdbaaDoor
/- THE CELL 'sum', in the pinned program and in every row, IS THE sha256 OF THE DUMP (.gsa) THAT YtjcckafjopjdbaaDoorProg.lean LOADS. Nothing in Lean hashes anything: it is a label: what it is worth is what the hold of that sum in a sandbox is worth. -/
noncomputable def Tryd.pinned : Pinned := { name := "ytjcckafjopjdbaadoor", sum := "2e4f2afc9814603dc292940635326653554fb68b10322aa478b6cd79cf6fbd4c", checked := Tryd.checked }
namespace Rows
def none {H : Type} : Left H := { results := [], args := [] }

/- WHAT THE LISTED PACKAGE-LEVEL VARIABLES READ AS WHEN THE CALL BEGINS. Each datum BY PROGRAM (the guide's laid-datum.mjs) off the statement by which the dump's own 'gosem.cut.vars' lays the variable. In a bare row this is a premise. The card (YtjcckafjopjdbaaDoorCards.lean) ties it to the program's text. -/
def laid_unicode_utf8_acceptRanges {H : Type} : DataW H := .agg [.agg [.lit (.int .u8 128), .lit (.int .u8 191)], .agg [.lit (.int .u8 160), .lit (.int .u8 191)], .agg [.lit (.int .u8 128), .lit (.int .u8 159)], .agg [.lit (.int .u8 144), .lit (.int .u8 191)], .agg [.lit (.int .u8 128), .lit (.int .u8 143)], .agg [.lit (.int .u8 0), .lit (.int .u8 0)], .agg [.lit (.int .u8 0), .lit (.int .u8 0)], .agg [.lit (.int .u8 0), .lit (.int .u8 0)], .agg [.lit (.int .u8 0), .lit (.int .u8 0)], .agg [.lit (.int .u8 0), .lit (.int .u8 0)], .agg [.lit (.int .u8 0), .lit (.int .u8 0)], .agg [.lit (.int .u8 0), .lit (.int .u8 0)], .agg [.lit (.int .u8 0), .lit (.int .u8 0)], .agg [.lit (.int .u8 0), .lit (.int .u8 0)], .agg [.lit (.int .u8 0), .lit (.int .u8 0)], .agg [.lit (.int .u8 0), .lit (.int .u8 0)]]
/-- One of Go's own tables, pinned by name: the form's constant. -/
def laid_unicode_utf8_first : DataW Unit := Go.Pinned.utf8First

/-- 'palatinelaw12.DnReads': WHATEVER THE INPUT: true; the input reads as it did. -/
def dnReadsSpec : ChangeSpec := { name := "dnReads", fn := fun _ => fun
  | [d] => { results := [.lit (.bool true)], args := [d] }
  | _ => none }
def dnReadsRow : OpenClaim := { program := "ytjcckafjopjdbaadoor", sum := "2e4f2afc9814603dc292940635326653554fb68b10322aa478b6cd79cf6fbd4c", func := "palatine/palatinelaw12.DnReads", spec := "dnReads", inPlace := ["internal/bytealg.IndexByteString", "internal/abi.NoEscape", "internal/bytealg.MakeNoZero", "internal/bytealg.CountString", "internal/bytealg.IndexString"], unfollowed := true, recurses := true, named := ["unicode/utf8.first", "unicode/utf8.acceptRanges", "internal/bytealg.MaxLen"], apart := false, laid := [("unicode/utf8.acceptRanges", laid_unicode_utf8_acceptRanges), ("unicode/utf8.first", laid_unicode_utf8_first)] }
def DnReadsSaid : Prop := dnReadsRow.holds Tryd.pinned (OpenSpec.ofChange dnReadsSpec)

/-- ITS FALSE NEIGHBOUR: 'it returns false'. Refute it at one input. -/
def dnReadsWrong : ChangeSpec := { name := "dnReads", fn := fun _ => fun
  | [d] => { results := [.lit (.bool false)], args := [d] }
  | _ => none }
def DnReadsWrongFalsely : Prop := dnReadsRow.holds Tryd.pinned (OpenSpec.ofChange dnReadsWrong)

/-- 'palatinelaw12.DnOrder': WHATEVER THE INPUT: true; the input reads as it did. -/
def dnOrderSpec : ChangeSpec := { name := "dnOrder", fn := fun _ => fun
  | [d1, d2, d3] => { results := [.lit (.bool true)], args := [d1, d2, d3] }
  | _ => none }
def dnOrderRow : OpenClaim := { program := "ytjcckafjopjdbaadoor", sum := "2e4f2afc9814603dc292940635326653554fb68b10322aa478b6cd79cf6fbd4c", func := "palatine/palatinelaw12.DnOrder", spec := "dnOrder", inPlace := ["internal/bytealg.IndexByteString", "internal/abi.NoEscape", "internal/bytealg.MakeNoZero", "internal/bytealg.CountString", "internal/bytealg.IndexString"], unfollowed := true, recurses := true, named := ["unicode/utf8.first", "unicode/utf8.acceptRanges", "internal/bytealg.MaxLen"], apart := false, laid := [("unicode/utf8.acceptRanges", laid_unicode_utf8_acceptRanges), ("unicode/utf8.first", laid_unicode_utf8_first)] }
def DnOrderSaid : Prop := dnOrderRow.holds Tryd.pinned (OpenSpec.ofChange dnOrderSpec)

/-- ITS FALSE NEIGHBOUR: 'it returns false'. Refute it at one input. -/
def dnOrderWrong : ChangeSpec := { name := "dnOrder", fn := fun _ => fun
  | [d1, d2, d3] => { results := [.lit (.bool false)], args := [d1, d2, d3] }
  | _ => none }
def DnOrderWrongFalsely : Prop := dnOrderRow.holds Tryd.pinned (OpenSpec.ofChange dnOrderWrong)

/-- 'palatinelaw12.DnFolds': WHATEVER THE INPUT: true; the input reads as it did. -/
def dnFoldsSpec : ChangeSpec := { name := "dnFolds", fn := fun _ => fun
  | [d1, d2] => { results := [.lit (.bool true)], args := [d1, d2] }
  | _ => none }
def dnFoldsRow : OpenClaim := { program := "ytjcckafjopjdbaadoor", sum := "2e4f2afc9814603dc292940635326653554fb68b10322aa478b6cd79cf6fbd4c", func := "palatine/palatinelaw12.DnFolds", spec := "dnFolds", inPlace := ["internal/bytealg.IndexByteString", "internal/abi.NoEscape", "internal/bytealg.MakeNoZero", "internal/bytealg.CountString", "internal/bytealg.IndexString"], unfollowed := true, recurses := true, named := ["unicode/utf8.first", "unicode/utf8.acceptRanges", "internal/bytealg.MaxLen"], apart := false, laid := [("unicode/utf8.acceptRanges", laid_unicode_utf8_acceptRanges), ("unicode/utf8.first", laid_unicode_utf8_first)] }
def DnFoldsSaid : Prop := dnFoldsRow.holds Tryd.pinned (OpenSpec.ofChange dnFoldsSpec)

/-- ITS FALSE NEIGHBOUR: 'it returns false'. Refute it at one input. -/
def dnFoldsWrong : ChangeSpec := { name := "dnFolds", fn := fun _ => fun
  | [d1, d2] => { results := [.lit (.bool false)], args := [d1, d2] }
  | _ => none }
def DnFoldsWrongFalsely : Prop := dnFoldsRow.holds Tryd.pinned (OpenSpec.ofChange dnFoldsWrong)

/-- 'palatinelaw12.DnJoins': WHATEVER THE INPUT: true; the input reads as it did. -/
def dnJoinsSpec : ChangeSpec := { name := "dnJoins", fn := fun _ => fun
  | [d1, d2] => { results := [.lit (.bool true)], args := [d1, d2] }
  | _ => none }
def dnJoinsRow : OpenClaim := { program := "ytjcckafjopjdbaadoor", sum := "2e4f2afc9814603dc292940635326653554fb68b10322aa478b6cd79cf6fbd4c", func := "palatine/palatinelaw12.DnJoins", spec := "dnJoins", inPlace := ["internal/bytealg.IndexByteString", "internal/abi.NoEscape", "internal/bytealg.MakeNoZero", "internal/bytealg.CountString", "internal/bytealg.IndexString"], unfollowed := true, recurses := true, named := ["unicode/utf8.first", "unicode/utf8.acceptRanges", "internal/bytealg.MaxLen"], apart := false, laid := [("unicode/utf8.acceptRanges", laid_unicode_utf8_acceptRanges), ("unicode/utf8.first", laid_unicode_utf8_first)] }
def DnJoinsSaid : Prop := dnJoinsRow.holds Tryd.pinned (OpenSpec.ofChange dnJoinsSpec)

/-- ITS FALSE NEIGHBOUR: 'it returns false'. Refute it at one input. -/
def dnJoinsWrong : ChangeSpec := { name := "dnJoins", fn := fun _ => fun
  | [d1, d2] => { results := [.lit (.bool false)], args := [d1, d2] }
  | _ => none }
def DnJoinsWrongFalsely : Prop := dnJoinsRow.holds Tryd.pinned (OpenSpec.ofChange dnJoinsWrong)

/-- 'palatinelaw12.DnBack': WHATEVER THE INPUT: true; the input reads as it did. -/
def dnBackSpec : ChangeSpec := { name := "dnBack", fn := fun _ => fun
  | [d] => { results := [.lit (.bool true)], args := [d] }
  | _ => none }
def dnBackRow : OpenClaim := { program := "ytjcckafjopjdbaadoor", sum := "2e4f2afc9814603dc292940635326653554fb68b10322aa478b6cd79cf6fbd4c", func := "palatine/palatinelaw12.DnBack", spec := "dnBack", inPlace := ["internal/bytealg.IndexByteString", "internal/abi.NoEscape", "internal/bytealg.MakeNoZero", "internal/bytealg.CountString", "internal/bytealg.IndexString"], unfollowed := true, recurses := true, named := ["unicode/utf8.first", "unicode/utf8.acceptRanges", "internal/bytealg.MaxLen"], apart := false, laid := [("unicode/utf8.acceptRanges", laid_unicode_utf8_acceptRanges), ("unicode/utf8.first", laid_unicode_utf8_first)] }
def DnBackSaid : Prop := dnBackRow.holds Tryd.pinned (OpenSpec.ofChange dnBackSpec)

/-- ITS FALSE NEIGHBOUR: 'it returns false'. Refute it at one input. -/
def dnBackWrong : ChangeSpec := { name := "dnBack", fn := fun _ => fun
  | [d] => { results := [.lit (.bool false)], args := [d] }
  | _ => none }
def DnBackWrongFalsely : Prop := dnBackRow.holds Tryd.pinned (OpenSpec.ofChange dnBackWrong)

/-- 'palatinelaw12.DnKeys': WHATEVER THE INPUT: true; the input reads as it did. -/
def dnKeysSpec : ChangeSpec := { name := "dnKeys", fn := fun _ => fun
  | [d1, d2] => { results := [.lit (.bool true)], args := [d1, d2] }
  | _ => none }
def dnKeysRow : OpenClaim := { program := "ytjcckafjopjdbaadoor", sum := "2e4f2afc9814603dc292940635326653554fb68b10322aa478b6cd79cf6fbd4c", func := "palatine/palatinelaw12.DnKeys", spec := "dnKeys", inPlace := ["internal/bytealg.IndexByteString", "internal/abi.NoEscape", "internal/bytealg.MakeNoZero", "internal/bytealg.CountString", "internal/bytealg.IndexString"], unfollowed := true, recurses := true, named := ["unicode/utf8.first", "unicode/utf8.acceptRanges", "internal/bytealg.MaxLen"], apart := false, laid := [("unicode/utf8.acceptRanges", laid_unicode_utf8_acceptRanges), ("unicode/utf8.first", laid_unicode_utf8_first)] }
def DnKeysSaid : Prop := dnKeysRow.holds Tryd.pinned (OpenSpec.ofChange dnKeysSpec)

/-- ITS FALSE NEIGHBOUR: 'it returns false'. Refute it at one input. -/
def dnKeysWrong : ChangeSpec := { name := "dnKeys", fn := fun _ => fun
  | [d1, d2] => { results := [.lit (.bool false)], args := [d1, d2] }
  | _ => none }
def DnKeysWrongFalsely : Prop := dnKeysRow.holds Tryd.pinned (OpenSpec.ofChange dnKeysWrong)

/- THE SECOND FORM. 'bulk': how many values and letters a reading holds, each counted each time it is reached (what is shared counts as often as it is met; a slice's spare places count too). A statement '..UptoSaid' is the law's where the arguments, and the package variables that the reading takes, are together of bulk at most 1048576: NARROWER than '..Said'. Prove '..Said' where nothing that the law and all that it calls make is longer than what came in: it says more and counts as full. Else prove '..UptoSaid'. A law counts once. -/
mutual
def uptoBulk {H : Type} : DataW H → Nat
  | .lit (.string bytes) => bytes.length + 1
  | .lit _ => 1
  | .nil => 1
  | .ptr d => uptoBulk d + 1
  | .slice elems spare => uptoBulkAll elems + uptoBulkAll spare + 1
  | .agg parts => uptoBulkAll parts + 1
  | .iface _ d => uptoBulk d + 1
  | .map entries => uptoBulkEntries entries + 1
  | .held _ => 1
def uptoBulkAll {H : Type} : List (DataW H) → Nat
  | [] => 0
  | d :: r => uptoBulk d + uptoBulkAll r
def uptoBulkEntries {H : Type} : List (Lit × DataW H) → Nat
  | [] => 0
  | x :: r => uptoBulkEntry x + uptoBulkEntries r
def uptoBulkEntry {H : Type} : Lit × DataW H → Nat
  | (.string bytes, d) => bytes.length + uptoBulk d + 1
  | (_, d) => uptoBulk d + 1
 end
def uptoSmall : (H : Type) → List (DataW H) → Bool := fun _ ds => decide (uptoBulkAll ds ≤ 1048576)
def OpenSpec.upto (s : _root_.Go.ChangeSpec) : _root_.Go.OpenSpec := { _root_.Go.OpenSpec.ofChange s with cond := some uptoSmall }

/-- 'palatinelaw12.DnReads', WHERE WHAT IT READS IS OF BULK AT MOST 1048576: true; the input reads as it did. -/
def dnReadsUptoRow : OpenClaim := { program := "ytjcckafjopjdbaadoor", sum := "2e4f2afc9814603dc292940635326653554fb68b10322aa478b6cd79cf6fbd4c", func := "palatine/palatinelaw12.DnReads", spec := "dnReads", inPlace := ["internal/bytealg.IndexByteString", "internal/abi.NoEscape", "internal/bytealg.MakeNoZero", "internal/bytealg.CountString", "internal/bytealg.IndexString"], unfollowed := true, recurses := true, named := ["unicode/utf8.first", "unicode/utf8.acceptRanges", "internal/bytealg.MaxLen"], apart := false, laid := [("unicode/utf8.acceptRanges", laid_unicode_utf8_acceptRanges), ("unicode/utf8.first", laid_unicode_utf8_first)], narrowed := true }
def DnReadsUptoSaid : Prop := dnReadsUptoRow.holds Tryd.pinned (OpenSpec.upto dnReadsSpec)

/-- 'palatinelaw12.DnOrder', WHERE WHAT IT READS IS OF BULK AT MOST 1048576: true; the input reads as it did. -/
def dnOrderUptoRow : OpenClaim := { program := "ytjcckafjopjdbaadoor", sum := "2e4f2afc9814603dc292940635326653554fb68b10322aa478b6cd79cf6fbd4c", func := "palatine/palatinelaw12.DnOrder", spec := "dnOrder", inPlace := ["internal/bytealg.IndexByteString", "internal/abi.NoEscape", "internal/bytealg.MakeNoZero", "internal/bytealg.CountString", "internal/bytealg.IndexString"], unfollowed := true, recurses := true, named := ["unicode/utf8.first", "unicode/utf8.acceptRanges", "internal/bytealg.MaxLen"], apart := false, laid := [("unicode/utf8.acceptRanges", laid_unicode_utf8_acceptRanges), ("unicode/utf8.first", laid_unicode_utf8_first)], narrowed := true }
def DnOrderUptoSaid : Prop := dnOrderUptoRow.holds Tryd.pinned (OpenSpec.upto dnOrderSpec)

/-- 'palatinelaw12.DnFolds', WHERE WHAT IT READS IS OF BULK AT MOST 1048576: true; the input reads as it did. -/
def dnFoldsUptoRow : OpenClaim := { program := "ytjcckafjopjdbaadoor", sum := "2e4f2afc9814603dc292940635326653554fb68b10322aa478b6cd79cf6fbd4c", func := "palatine/palatinelaw12.DnFolds", spec := "dnFolds", inPlace := ["internal/bytealg.IndexByteString", "internal/abi.NoEscape", "internal/bytealg.MakeNoZero", "internal/bytealg.CountString", "internal/bytealg.IndexString"], unfollowed := true, recurses := true, named := ["unicode/utf8.first", "unicode/utf8.acceptRanges", "internal/bytealg.MaxLen"], apart := false, laid := [("unicode/utf8.acceptRanges", laid_unicode_utf8_acceptRanges), ("unicode/utf8.first", laid_unicode_utf8_first)], narrowed := true }
def DnFoldsUptoSaid : Prop := dnFoldsUptoRow.holds Tryd.pinned (OpenSpec.upto dnFoldsSpec)

/-- 'palatinelaw12.DnJoins', WHERE WHAT IT READS IS OF BULK AT MOST 1048576: true; the input reads as it did. -/
def dnJoinsUptoRow : OpenClaim := { program := "ytjcckafjopjdbaadoor", sum := "2e4f2afc9814603dc292940635326653554fb68b10322aa478b6cd79cf6fbd4c", func := "palatine/palatinelaw12.DnJoins", spec := "dnJoins", inPlace := ["internal/bytealg.IndexByteString", "internal/abi.NoEscape", "internal/bytealg.MakeNoZero", "internal/bytealg.CountString", "internal/bytealg.IndexString"], unfollowed := true, recurses := true, named := ["unicode/utf8.first", "unicode/utf8.acceptRanges", "internal/bytealg.MaxLen"], apart := false, laid := [("unicode/utf8.acceptRanges", laid_unicode_utf8_acceptRanges), ("unicode/utf8.first", laid_unicode_utf8_first)], narrowed := true }
def DnJoinsUptoSaid : Prop := dnJoinsUptoRow.holds Tryd.pinned (OpenSpec.upto dnJoinsSpec)

/-- 'palatinelaw12.DnBack', WHERE WHAT IT READS IS OF BULK AT MOST 1048576: true; the input reads as it did. -/
def dnBackUptoRow : OpenClaim := { program := "ytjcckafjopjdbaadoor", sum := "2e4f2afc9814603dc292940635326653554fb68b10322aa478b6cd79cf6fbd4c", func := "palatine/palatinelaw12.DnBack", spec := "dnBack", inPlace := ["internal/bytealg.IndexByteString", "internal/abi.NoEscape", "internal/bytealg.MakeNoZero", "internal/bytealg.CountString", "internal/bytealg.IndexString"], unfollowed := true, recurses := true, named := ["unicode/utf8.first", "unicode/utf8.acceptRanges", "internal/bytealg.MaxLen"], apart := false, laid := [("unicode/utf8.acceptRanges", laid_unicode_utf8_acceptRanges), ("unicode/utf8.first", laid_unicode_utf8_first)], narrowed := true }
def DnBackUptoSaid : Prop := dnBackUptoRow.holds Tryd.pinned (OpenSpec.upto dnBackSpec)

/-- 'palatinelaw12.DnKeys', WHERE WHAT IT READS IS OF BULK AT MOST 1048576: true; the input reads as it did. -/
def dnKeysUptoRow : OpenClaim := { program := "ytjcckafjopjdbaadoor", sum := "2e4f2afc9814603dc292940635326653554fb68b10322aa478b6cd79cf6fbd4c", func := "palatine/palatinelaw12.DnKeys", spec := "dnKeys", inPlace := ["internal/bytealg.IndexByteString", "internal/abi.NoEscape", "internal/bytealg.MakeNoZero", "internal/bytealg.CountString", "internal/bytealg.IndexString"], unfollowed := true, recurses := true, named := ["unicode/utf8.first", "unicode/utf8.acceptRanges", "internal/bytealg.MaxLen"], apart := false, laid := [("unicode/utf8.acceptRanges", laid_unicode_utf8_acceptRanges), ("unicode/utf8.first", laid_unicode_utf8_first)], narrowed := true }
def DnKeysUptoSaid : Prop := dnKeysUptoRow.holds Tryd.pinned (OpenSpec.upto dnKeysSpec)

end Rows
end Go.Proofs.YtjcckafjopjdbaaDoor
