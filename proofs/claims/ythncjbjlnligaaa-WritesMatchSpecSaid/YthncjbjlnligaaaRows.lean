/-
  No cell of these rows narrows 'for every input' (looked for: loops, veiled, ifaces, maps, wideKeys, modest, calm, conditions, laid).
  DERIVED. THE GIVEN ROWS OF THIS SEAT. 6 by the template 'for every input the law returns true; each argument reads behind the call as it read before'; 0 by the template 'total and deterministic' (their statements: YthncjbjlnligaaaTotals.lean).
  GIVEN WITH THE SEED: the statements are not yours to turn. If you find one false, say at which input.
  Laid BY PROGRAM, IN A SANDBOX (cutbox-rows.mjs): the forced cells as the released guide's own fill.sh prints them over the translation 7c240975e821cf5f… (all of the seat's roots in one cut). By AI agents, Wed Nov 11 2026. No macro, syntax, notation, axiom, sorry.
-/
import Derived.Test.YthncjbjlnligaaaChecked
import GoSem.Claim
import GoSem.ClaimJoined
import GoSem.ClaimMapViews
import Derived.JoinedTies
import Derived.KernelRfl
namespace Go.Proofs.Ythncjbjlnligaaa
/- THE CELL 'sum', in the pinned program and in every row, IS THE sha256 OF THE DUMP (.gsa) THAT YthncjbjlnligaaaProg.lean LOADS. Nothing in Lean hashes anything: it is a label: what it is worth is what the hold of that sum in a sandbox is worth. -/
noncomputable def Try.pinned : Pinned := { name := "ythncjbjlnligaaa", sum := "7c240975e821cf5faac47b220c05539c63fdf63b89b4b47644f19bcc51889f9a", checked := Try.checked }
namespace Rows
def none {H : Type} : Left H := { results := [], args := [] }

/-- 'peristylelaw11.StoresMatchSpec': WHATEVER THE INPUT: true; the input reads as it did. -/
def storesMatchSpecSpec : ChangeSpec := { name := "storesMatchSpec", fn := fun _ => fun
  | [d1, d2, d3] => { results := [.lit (.bool true)], args := [d1, d2, d3] }
  | _ => none }
def storesMatchSpecRow : OpenClaim := { program := "ythncjbjlnligaaa", sum := "7c240975e821cf5faac47b220c05539c63fdf63b89b4b47644f19bcc51889f9a", func := "peristyle/peristylelaw11.StoresMatchSpec", spec := "storesMatchSpec", unfollowed := true, recurses := true, apart := false }
def StoresMatchSpecSaid : Prop := storesMatchSpecRow.holds Try.pinned (OpenSpec.ofChange storesMatchSpecSpec)

/-- ITS FALSE NEIGHBOUR: 'it returns false'. Refute it at one input. -/
def storesMatchSpecWrong : ChangeSpec := { name := "storesMatchSpec", fn := fun _ => fun
  | [d1, d2, d3] => { results := [.lit (.bool false)], args := [d1, d2, d3] }
  | _ => none }
def StoresMatchSpecWrongFalsely : Prop := storesMatchSpecRow.holds Try.pinned (OpenSpec.ofChange storesMatchSpecWrong)

/-- 'peristylelaw11.WritesMatchSpec': WHATEVER THE INPUT: true; the input reads as it did. -/
def writesMatchSpecSpec : ChangeSpec := { name := "writesMatchSpec", fn := fun _ => fun
  | [d1, d2, d3, d4] => { results := [.lit (.bool true)], args := [d1, d2, d3, d4] }
  | _ => none }
def writesMatchSpecRow : OpenClaim := { program := "ythncjbjlnligaaa", sum := "7c240975e821cf5faac47b220c05539c63fdf63b89b4b47644f19bcc51889f9a", func := "peristyle/peristylelaw11.WritesMatchSpec", spec := "writesMatchSpec", unfollowed := true, recurses := true, apart := false }
def WritesMatchSpecSaid : Prop := writesMatchSpecRow.holds Try.pinned (OpenSpec.ofChange writesMatchSpecSpec)

/-- ITS FALSE NEIGHBOUR: 'it returns false'. Refute it at one input. -/
def writesMatchSpecWrong : ChangeSpec := { name := "writesMatchSpec", fn := fun _ => fun
  | [d1, d2, d3, d4] => { results := [.lit (.bool false)], args := [d1, d2, d3, d4] }
  | _ => none }
def WritesMatchSpecWrongFalsely : Prop := writesMatchSpecRow.holds Try.pinned (OpenSpec.ofChange writesMatchSpecWrong)

/-- 'peristylelaw11.SweepsMatchSpec': WHATEVER THE INPUT: true; the input reads as it did. -/
def sweepsMatchSpecSpec : ChangeSpec := { name := "sweepsMatchSpec", fn := fun _ => fun
  | [d1, d2, d3] => { results := [.lit (.bool true)], args := [d1, d2, d3] }
  | _ => none }
def sweepsMatchSpecRow : OpenClaim := { program := "ythncjbjlnligaaa", sum := "7c240975e821cf5faac47b220c05539c63fdf63b89b4b47644f19bcc51889f9a", func := "peristyle/peristylelaw11.SweepsMatchSpec", spec := "sweepsMatchSpec", unfollowed := true, recurses := true, apart := false }
def SweepsMatchSpecSaid : Prop := sweepsMatchSpecRow.holds Try.pinned (OpenSpec.ofChange sweepsMatchSpecSpec)

/-- ITS FALSE NEIGHBOUR: 'it returns false'. Refute it at one input. -/
def sweepsMatchSpecWrong : ChangeSpec := { name := "sweepsMatchSpec", fn := fun _ => fun
  | [d1, d2, d3] => { results := [.lit (.bool false)], args := [d1, d2, d3] }
  | _ => none }
def SweepsMatchSpecWrongFalsely : Prop := sweepsMatchSpecRow.holds Try.pinned (OpenSpec.ofChange sweepsMatchSpecWrong)

/-- 'peristylelaw11.SweepsChangeNothing': WHATEVER THE INPUT: true; the input reads as it did. -/
def sweepsChangeNothingSpec : ChangeSpec := { name := "sweepsChangeNothing", fn := fun _ => fun
  | [d1, d2, d3, d4] => { results := [.lit (.bool true)], args := [d1, d2, d3, d4] }
  | _ => none }
def sweepsChangeNothingRow : OpenClaim := { program := "ythncjbjlnligaaa", sum := "7c240975e821cf5faac47b220c05539c63fdf63b89b4b47644f19bcc51889f9a", func := "peristyle/peristylelaw11.SweepsChangeNothing", spec := "sweepsChangeNothing", unfollowed := true, recurses := true, apart := false }
def SweepsChangeNothingSaid : Prop := sweepsChangeNothingRow.holds Try.pinned (OpenSpec.ofChange sweepsChangeNothingSpec)

/-- ITS FALSE NEIGHBOUR: 'it returns false'. Refute it at one input. -/
def sweepsChangeNothingWrong : ChangeSpec := { name := "sweepsChangeNothing", fn := fun _ => fun
  | [d1, d2, d3, d4] => { results := [.lit (.bool false)], args := [d1, d2, d3, d4] }
  | _ => none }
def SweepsChangeNothingWrongFalsely : Prop := sweepsChangeNothingRow.holds Try.pinned (OpenSpec.ofChange sweepsChangeNothingWrong)

/-- 'peristylelaw11.ChangesMakeTheLater': WHATEVER THE INPUT: true; the input reads as it did. -/
def changesMakeTheLaterSpec : ChangeSpec := { name := "changesMakeTheLater", fn := fun _ => fun
  | [d1, d2, d3] => { results := [.lit (.bool true)], args := [d1, d2, d3] }
  | _ => none }
def changesMakeTheLaterRow : OpenClaim := { program := "ythncjbjlnligaaa", sum := "7c240975e821cf5faac47b220c05539c63fdf63b89b4b47644f19bcc51889f9a", func := "peristyle/peristylelaw11.ChangesMakeTheLater", spec := "changesMakeTheLater", unfollowed := true, recurses := true, apart := false }
def ChangesMakeTheLaterSaid : Prop := changesMakeTheLaterRow.holds Try.pinned (OpenSpec.ofChange changesMakeTheLaterSpec)

/-- ITS FALSE NEIGHBOUR: 'it returns false'. Refute it at one input. -/
def changesMakeTheLaterWrong : ChangeSpec := { name := "changesMakeTheLater", fn := fun _ => fun
  | [d1, d2, d3] => { results := [.lit (.bool false)], args := [d1, d2, d3] }
  | _ => none }
def ChangesMakeTheLaterWrongFalsely : Prop := changesMakeTheLaterRow.holds Try.pinned (OpenSpec.ofChange changesMakeTheLaterWrong)

/-- 'peristylelaw11.PastMatchesSpec': WHATEVER THE INPUT: true; the input reads as it did. -/
def pastMatchesSpecSpec : ChangeSpec := { name := "pastMatchesSpec", fn := fun _ => fun
  | [d1, d2, d3, d4, d5] => { results := [.lit (.bool true)], args := [d1, d2, d3, d4, d5] }
  | _ => none }
def pastMatchesSpecRow : OpenClaim := { program := "ythncjbjlnligaaa", sum := "7c240975e821cf5faac47b220c05539c63fdf63b89b4b47644f19bcc51889f9a", func := "peristyle/peristylelaw11.PastMatchesSpec", spec := "pastMatchesSpec", unfollowed := true, recurses := true, apart := false }
def PastMatchesSpecSaid : Prop := pastMatchesSpecRow.holds Try.pinned (OpenSpec.ofChange pastMatchesSpecSpec)

/-- ITS FALSE NEIGHBOUR: 'it returns false'. Refute it at one input. -/
def pastMatchesSpecWrong : ChangeSpec := { name := "pastMatchesSpec", fn := fun _ => fun
  | [d1, d2, d3, d4, d5] => { results := [.lit (.bool false)], args := [d1, d2, d3, d4, d5] }
  | _ => none }
def PastMatchesSpecWrongFalsely : Prop := pastMatchesSpecRow.holds Try.pinned (OpenSpec.ofChange pastMatchesSpecWrong)

/- THE SECOND FORM. 'bulk': how many values and letters a reading holds, each counted each time it is reached (what is shared counts as often as it is met; a slice's spare places count too). A statement '..UptoSaid' is the law's where the arguments, and the package variables that the reading takes, are together of bulk at most 1048576: NARROWER than '..Said'. Prove '..Said' where nothing that the law and all that it calls make is longer than what came in: it says more and counts as full. Else prove '..UptoSaid'. A law counts once. -/
mutual
def uptoBulk {H : Type} : DataW H → Nat
  | .lit (.string bytes) => bytes.length + 1
  | .lit _ => 1
  | .nil => 1
  | .ptr d => uptoBulk d + 1
  | .slice elems spare => uptoBulkAll elems + uptoBulkAll spare + 1
  | .agg parts => uptoBulkAll parts + 1
  | .iface _ d => uptoBulk d + 1
  | .map entries => uptoBulkEntries entries + 1
  | .held _ => 1
def uptoBulkAll {H : Type} : List (DataW H) → Nat
  | [] => 0
  | d :: r => uptoBulk d + uptoBulkAll r
def uptoBulkEntries {H : Type} : List (Lit × DataW H) → Nat
  | [] => 0
  | x :: r => uptoBulkEntry x + uptoBulkEntries r
def uptoBulkEntry {H : Type} : Lit × DataW H → Nat
  | (.string bytes, d) => bytes.length + uptoBulk d + 1
  | (_, d) => uptoBulk d + 1
 end
def uptoSmall : (H : Type) → List (DataW H) → Bool := fun _ ds => decide (uptoBulkAll ds ≤ 1048576)
def OpenSpec.upto (s : _root_.Go.ChangeSpec) : _root_.Go.OpenSpec := { _root_.Go.OpenSpec.ofChange s with cond := some uptoSmall }

/-- 'peristylelaw11.StoresMatchSpec', WHERE WHAT IT READS IS OF BULK AT MOST 1048576: true; the input reads as it did. -/
def storesMatchSpecUptoRow : OpenClaim := { program := "ythncjbjlnligaaa", sum := "7c240975e821cf5faac47b220c05539c63fdf63b89b4b47644f19bcc51889f9a", func := "peristyle/peristylelaw11.StoresMatchSpec", spec := "storesMatchSpec", unfollowed := true, recurses := true, apart := false, narrowed := true }
def StoresMatchSpecUptoSaid : Prop := storesMatchSpecUptoRow.holds Try.pinned (OpenSpec.upto storesMatchSpecSpec)

/-- 'peristylelaw11.WritesMatchSpec', WHERE WHAT IT READS IS OF BULK AT MOST 1048576: true; the input reads as it did. -/
def writesMatchSpecUptoRow : OpenClaim := { program := "ythncjbjlnligaaa", sum := "7c240975e821cf5faac47b220c05539c63fdf63b89b4b47644f19bcc51889f9a", func := "peristyle/peristylelaw11.WritesMatchSpec", spec := "writesMatchSpec", unfollowed := true, recurses := true, apart := false, narrowed := true }
def WritesMatchSpecUptoSaid : Prop := writesMatchSpecUptoRow.holds Try.pinned (OpenSpec.upto writesMatchSpecSpec)

/-- 'peristylelaw11.SweepsMatchSpec', WHERE WHAT IT READS IS OF BULK AT MOST 1048576: true; the input reads as it did. -/
def sweepsMatchSpecUptoRow : OpenClaim := { program := "ythncjbjlnligaaa", sum := "7c240975e821cf5faac47b220c05539c63fdf63b89b4b47644f19bcc51889f9a", func := "peristyle/peristylelaw11.SweepsMatchSpec", spec := "sweepsMatchSpec", unfollowed := true, recurses := true, apart := false, narrowed := true }
def SweepsMatchSpecUptoSaid : Prop := sweepsMatchSpecUptoRow.holds Try.pinned (OpenSpec.upto sweepsMatchSpecSpec)

/-- 'peristylelaw11.SweepsChangeNothing', WHERE WHAT IT READS IS OF BULK AT MOST 1048576: true; the input reads as it did. -/
def sweepsChangeNothingUptoRow : OpenClaim := { program := "ythncjbjlnligaaa", sum := "7c240975e821cf5faac47b220c05539c63fdf63b89b4b47644f19bcc51889f9a", func := "peristyle/peristylelaw11.SweepsChangeNothing", spec := "sweepsChangeNothing", unfollowed := true, recurses := true, apart := false, narrowed := true }
def SweepsChangeNothingUptoSaid : Prop := sweepsChangeNothingUptoRow.holds Try.pinned (OpenSpec.upto sweepsChangeNothingSpec)

/-- 'peristylelaw11.ChangesMakeTheLater', WHERE WHAT IT READS IS OF BULK AT MOST 1048576: true; the input reads as it did. -/
def changesMakeTheLaterUptoRow : OpenClaim := { program := "ythncjbjlnligaaa", sum := "7c240975e821cf5faac47b220c05539c63fdf63b89b4b47644f19bcc51889f9a", func := "peristyle/peristylelaw11.ChangesMakeTheLater", spec := "changesMakeTheLater", unfollowed := true, recurses := true, apart := false, narrowed := true }
def ChangesMakeTheLaterUptoSaid : Prop := changesMakeTheLaterUptoRow.holds Try.pinned (OpenSpec.upto changesMakeTheLaterSpec)

/-- 'peristylelaw11.PastMatchesSpec', WHERE WHAT IT READS IS OF BULK AT MOST 1048576: true; the input reads as it did. -/
def pastMatchesSpecUptoRow : OpenClaim := { program := "ythncjbjlnligaaa", sum := "7c240975e821cf5faac47b220c05539c63fdf63b89b4b47644f19bcc51889f9a", func := "peristyle/peristylelaw11.PastMatchesSpec", spec := "pastMatchesSpec", unfollowed := true, recurses := true, apart := false, narrowed := true }
def PastMatchesSpecUptoSaid : Prop := pastMatchesSpecUptoRow.holds Try.pinned (OpenSpec.upto pastMatchesSpecSpec)

end Rows
end Go.Proofs.Ythncjbjlnligaaa
