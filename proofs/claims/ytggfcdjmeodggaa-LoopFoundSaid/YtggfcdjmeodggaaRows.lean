/-
  No cell of these rows narrows 'for every input' (looked for: loops, veiled, ifaces, maps, wideKeys, modest, calm, conditions, laid).
  DERIVED. THE GIVEN ROWS OF THIS SEAT. 7 by the template 'for every input the law returns true; each argument reads behind the call as it read before'; 0 by the template 'total and deterministic' (their statements: YtggfcdjmeodggaaTotals.lean).
  GIVEN WITH THE SEED: the statements are not yours to turn. If you find one false, say at which input.
  Laid BY PROGRAM, IN A SANDBOX (cutbox-rows.mjs): the forced cells as the released guide's own fill.sh prints them over the translation 3ba00445e85efecf… (all of the seat's roots in one cut). By AI agents, Wed Nov 11 2026. No macro, syntax, notation, axiom, sorry.
-/
import Derived.Test.YtggfcdjmeodggaaChecked
import GoSem.Claim
import GoSem.ClaimJoined
import GoSem.ClaimMapViews
import Derived.JoinedTies
import Derived.KernelRfl
namespace Go.Proofs.Ytggfcdjmeodggaa
/- THE CELL 'sum', in the pinned program and in every row, IS THE sha256 OF THE DUMP (.gsa) THAT YtggfcdjmeodggaaProg.lean LOADS. Nothing in Lean hashes anything: it is a label: what it is worth is what the hold of that sum in a sandbox is worth. -/
noncomputable def Try.pinned : Pinned := { name := "ytggfcdjmeodggaa", sum := "3ba00445e85efecffb380a9c8bb35327fee0f11bc39d501c8487f391760ced48", checked := Try.checked }
namespace Rows
def none {H : Type} : Left H := { results := [], args := [] }

/-- 'standstilllaw10.LoopFound': WHATEVER THE INPUT: true; the input reads as it did. -/
def loopFoundSpec : ChangeSpec := { name := "loopFound", fn := fun _ => fun
  | [d1, d2] => { results := [.lit (.bool true)], args := [d1, d2] }
  | _ => none }
def loopFoundRow : OpenClaim := { program := "ytggfcdjmeodggaa", sum := "3ba00445e85efecffb380a9c8bb35327fee0f11bc39d501c8487f391760ced48", func := "standstill/standstilllaw10.LoopFound", spec := "loopFound", unfollowed := true, recurses := true, plainKeys := false, apart := false }
def LoopFoundSaid : Prop := loopFoundRow.holds Try.pinned (OpenSpec.ofChange loopFoundSpec)

/-- ITS FALSE NEIGHBOUR: 'it returns false'. Refute it at one input. -/
def loopFoundWrong : ChangeSpec := { name := "loopFound", fn := fun _ => fun
  | [d1, d2] => { results := [.lit (.bool false)], args := [d1, d2] }
  | _ => none }
def LoopFoundWrongFalsely : Prop := loopFoundRow.holds Try.pinned (OpenSpec.ofChange loopFoundWrong)

/-- 'standstilllaw02.NormalSame': WHATEVER THE INPUT: true; the input reads as it did. -/
def normalSameSpec : ChangeSpec := { name := "normalSame", fn := fun _ => fun
  | [d1, d2] => { results := [.lit (.bool true)], args := [d1, d2] }
  | _ => none }
def normalSameRow : OpenClaim := { program := "ytggfcdjmeodggaa", sum := "3ba00445e85efecffb380a9c8bb35327fee0f11bc39d501c8487f391760ced48", func := "standstill/standstilllaw02.NormalSame", spec := "normalSame", plainKeys := false, apart := false }
def NormalSameSaid : Prop := normalSameRow.holds Try.pinned (OpenSpec.ofChange normalSameSpec)

/-- ITS FALSE NEIGHBOUR: 'it returns false'. Refute it at one input. -/
def normalSameWrong : ChangeSpec := { name := "normalSame", fn := fun _ => fun
  | [d1, d2] => { results := [.lit (.bool false)], args := [d1, d2] }
  | _ => none }
def NormalSameWrongFalsely : Prop := normalSameRow.holds Try.pinned (OpenSpec.ofChange normalSameWrong)

/-- 'standstilllaw02.NormalAlike': WHATEVER THE INPUT: true; the input reads as it did. -/
def normalAlikeSpec : ChangeSpec := { name := "normalAlike", fn := fun _ => fun
  | [d1, d2, d3, d4] => { results := [.lit (.bool true)], args := [d1, d2, d3, d4] }
  | _ => none }
def normalAlikeRow : OpenClaim := { program := "ytggfcdjmeodggaa", sum := "3ba00445e85efecffb380a9c8bb35327fee0f11bc39d501c8487f391760ced48", func := "standstill/standstilllaw02.NormalAlike", spec := "normalAlike", plainKeys := false, apart := false }
def NormalAlikeSaid : Prop := normalAlikeRow.holds Try.pinned (OpenSpec.ofChange normalAlikeSpec)

/-- ITS FALSE NEIGHBOUR: 'it returns false'. Refute it at one input. -/
def normalAlikeWrong : ChangeSpec := { name := "normalAlike", fn := fun _ => fun
  | [d1, d2, d3, d4] => { results := [.lit (.bool false)], args := [d1, d2, d3, d4] }
  | _ => none }
def NormalAlikeWrongFalsely : Prop := normalAlikeRow.holds Try.pinned (OpenSpec.ofChange normalAlikeWrong)

/-- 'standstilllaw02.NormalForms': WHATEVER THE INPUT: true; the input reads as it did. -/
def normalFormsSpec : ChangeSpec := { name := "normalForms", fn := fun _ => fun
  | [d1, d2] => { results := [.lit (.bool true)], args := [d1, d2] }
  | _ => none }
def normalFormsRow : OpenClaim := { program := "ytggfcdjmeodggaa", sum := "3ba00445e85efecffb380a9c8bb35327fee0f11bc39d501c8487f391760ced48", func := "standstill/standstilllaw02.NormalForms", spec := "normalForms", plainKeys := false, apart := false }
def NormalFormsSaid : Prop := normalFormsRow.holds Try.pinned (OpenSpec.ofChange normalFormsSpec)

/-- ITS FALSE NEIGHBOUR: 'it returns false'. Refute it at one input. -/
def normalFormsWrong : ChangeSpec := { name := "normalForms", fn := fun _ => fun
  | [d1, d2] => { results := [.lit (.bool false)], args := [d1, d2] }
  | _ => none }
def NormalFormsWrongFalsely : Prop := normalFormsRow.holds Try.pinned (OpenSpec.ofChange normalFormsWrong)

/-- 'standstilllaw02.NormalTree': WHATEVER THE INPUT: true; the input reads as it did. -/
def normalTreeSpec : ChangeSpec := { name := "normalTree", fn := fun _ => fun
  | [d1, d2] => { results := [.lit (.bool true)], args := [d1, d2] }
  | _ => none }
def normalTreeRow : OpenClaim := { program := "ytggfcdjmeodggaa", sum := "3ba00445e85efecffb380a9c8bb35327fee0f11bc39d501c8487f391760ced48", func := "standstill/standstilllaw02.NormalTree", spec := "normalTree", plainKeys := false, apart := false }
def NormalTreeSaid : Prop := normalTreeRow.holds Try.pinned (OpenSpec.ofChange normalTreeSpec)

/-- ITS FALSE NEIGHBOUR: 'it returns false'. Refute it at one input. -/
def normalTreeWrong : ChangeSpec := { name := "normalTree", fn := fun _ => fun
  | [d1, d2] => { results := [.lit (.bool false)], args := [d1, d2] }
  | _ => none }
def NormalTreeWrongFalsely : Prop := normalTreeRow.holds Try.pinned (OpenSpec.ofChange normalTreeWrong)

/-- 'standstilllaw02.NormalWalks': WHATEVER THE INPUT: true; the input reads as it did. -/
def normalWalksSpec : ChangeSpec := { name := "normalWalks", fn := fun _ => fun
  | [d1, d2, d3, d4] => { results := [.lit (.bool true)], args := [d1, d2, d3, d4] }
  | _ => none }
def normalWalksRow : OpenClaim := { program := "ytggfcdjmeodggaa", sum := "3ba00445e85efecffb380a9c8bb35327fee0f11bc39d501c8487f391760ced48", func := "standstill/standstilllaw02.NormalWalks", spec := "normalWalks", unfollowed := true, recurses := true, plainKeys := false, apart := false }
def NormalWalksSaid : Prop := normalWalksRow.holds Try.pinned (OpenSpec.ofChange normalWalksSpec)

/-- ITS FALSE NEIGHBOUR: 'it returns false'. Refute it at one input. -/
def normalWalksWrong : ChangeSpec := { name := "normalWalks", fn := fun _ => fun
  | [d1, d2, d3, d4] => { results := [.lit (.bool false)], args := [d1, d2, d3, d4] }
  | _ => none }
def NormalWalksWrongFalsely : Prop := normalWalksRow.holds Try.pinned (OpenSpec.ofChange normalWalksWrong)

/-- 'standstilllaw02.NormalOnce': WHATEVER THE INPUT: true; the input reads as it did. -/
def normalOnceSpec : ChangeSpec := { name := "normalOnce", fn := fun _ => fun
  | [d1, d2, d3, d4] => { results := [.lit (.bool true)], args := [d1, d2, d3, d4] }
  | _ => none }
def normalOnceRow : OpenClaim := { program := "ytggfcdjmeodggaa", sum := "3ba00445e85efecffb380a9c8bb35327fee0f11bc39d501c8487f391760ced48", func := "standstill/standstilllaw02.NormalOnce", spec := "normalOnce", unfollowed := true, recurses := true, plainKeys := false, apart := false }
def NormalOnceSaid : Prop := normalOnceRow.holds Try.pinned (OpenSpec.ofChange normalOnceSpec)

/-- ITS FALSE NEIGHBOUR: 'it returns false'. Refute it at one input. -/
def normalOnceWrong : ChangeSpec := { name := "normalOnce", fn := fun _ => fun
  | [d1, d2, d3, d4] => { results := [.lit (.bool false)], args := [d1, d2, d3, d4] }
  | _ => none }
def NormalOnceWrongFalsely : Prop := normalOnceRow.holds Try.pinned (OpenSpec.ofChange normalOnceWrong)

/- THE SECOND FORM. 'bulk': how many values and letters a reading holds, each counted each time it is reached (what is shared counts as often as it is met; a slice's spare places count too). A statement '..UptoSaid' is the law's where the arguments, and the package variables that the reading takes, are together of bulk at most 1048576: NARROWER than '..Said'. Prove '..Said' where nothing that the law and all that it calls make is longer than what came in: it says more and counts as full. Else prove '..UptoSaid'. A law counts once. -/
mutual
def uptoBulk {H : Type} : DataW H → Nat
  | .lit (.string bytes) => bytes.length + 1
  | .lit _ => 1
  | .nil => 1
  | .ptr d => uptoBulk d + 1
  | .slice elems spare => uptoBulkAll elems + uptoBulkAll spare + 1
  | .agg parts => uptoBulkAll parts + 1
  | .iface _ d => uptoBulk d + 1
  | .map entries => uptoBulkEntries entries + 1
  | .held _ => 1
def uptoBulkAll {H : Type} : List (DataW H) → Nat
  | [] => 0
  | d :: r => uptoBulk d + uptoBulkAll r
def uptoBulkEntries {H : Type} : List (Lit × DataW H) → Nat
  | [] => 0
  | x :: r => uptoBulkEntry x + uptoBulkEntries r
def uptoBulkEntry {H : Type} : Lit × DataW H → Nat
  | (.string bytes, d) => bytes.length + uptoBulk d + 1
  | (_, d) => uptoBulk d + 1
 end
def uptoSmall : (H : Type) → List (DataW H) → Bool := fun _ ds => decide (uptoBulkAll ds ≤ 1048576)
def OpenSpec.upto (s : _root_.Go.ChangeSpec) : _root_.Go.OpenSpec := { _root_.Go.OpenSpec.ofChange s with cond := some uptoSmall }

/-- 'standstilllaw10.LoopFound', WHERE WHAT IT READS IS OF BULK AT MOST 1048576: true; the input reads as it did. -/
def loopFoundUptoRow : OpenClaim := { program := "ytggfcdjmeodggaa", sum := "3ba00445e85efecffb380a9c8bb35327fee0f11bc39d501c8487f391760ced48", func := "standstill/standstilllaw10.LoopFound", spec := "loopFound", unfollowed := true, recurses := true, plainKeys := false, apart := false, narrowed := true }
def LoopFoundUptoSaid : Prop := loopFoundUptoRow.holds Try.pinned (OpenSpec.upto loopFoundSpec)

/-- 'standstilllaw02.NormalSame', WHERE WHAT IT READS IS OF BULK AT MOST 1048576: true; the input reads as it did. -/
def normalSameUptoRow : OpenClaim := { program := "ytggfcdjmeodggaa", sum := "3ba00445e85efecffb380a9c8bb35327fee0f11bc39d501c8487f391760ced48", func := "standstill/standstilllaw02.NormalSame", spec := "normalSame", plainKeys := false, apart := false, narrowed := true }
def NormalSameUptoSaid : Prop := normalSameUptoRow.holds Try.pinned (OpenSpec.upto normalSameSpec)

/-- 'standstilllaw02.NormalAlike', WHERE WHAT IT READS IS OF BULK AT MOST 1048576: true; the input reads as it did. -/
def normalAlikeUptoRow : OpenClaim := { program := "ytggfcdjmeodggaa", sum := "3ba00445e85efecffb380a9c8bb35327fee0f11bc39d501c8487f391760ced48", func := "standstill/standstilllaw02.NormalAlike", spec := "normalAlike", plainKeys := false, apart := false, narrowed := true }
def NormalAlikeUptoSaid : Prop := normalAlikeUptoRow.holds Try.pinned (OpenSpec.upto normalAlikeSpec)

/-- 'standstilllaw02.NormalForms', WHERE WHAT IT READS IS OF BULK AT MOST 1048576: true; the input reads as it did. -/
def normalFormsUptoRow : OpenClaim := { program := "ytggfcdjmeodggaa", sum := "3ba00445e85efecffb380a9c8bb35327fee0f11bc39d501c8487f391760ced48", func := "standstill/standstilllaw02.NormalForms", spec := "normalForms", plainKeys := false, apart := false, narrowed := true }
def NormalFormsUptoSaid : Prop := normalFormsUptoRow.holds Try.pinned (OpenSpec.upto normalFormsSpec)

/-- 'standstilllaw02.NormalTree', WHERE WHAT IT READS IS OF BULK AT MOST 1048576: true; the input reads as it did. -/
def normalTreeUptoRow : OpenClaim := { program := "ytggfcdjmeodggaa", sum := "3ba00445e85efecffb380a9c8bb35327fee0f11bc39d501c8487f391760ced48", func := "standstill/standstilllaw02.NormalTree", spec := "normalTree", plainKeys := false, apart := false, narrowed := true }
def NormalTreeUptoSaid : Prop := normalTreeUptoRow.holds Try.pinned (OpenSpec.upto normalTreeSpec)

/-- 'standstilllaw02.NormalWalks', WHERE WHAT IT READS IS OF BULK AT MOST 1048576: true; the input reads as it did. -/
def normalWalksUptoRow : OpenClaim := { program := "ytggfcdjmeodggaa", sum := "3ba00445e85efecffb380a9c8bb35327fee0f11bc39d501c8487f391760ced48", func := "standstill/standstilllaw02.NormalWalks", spec := "normalWalks", unfollowed := true, recurses := true, plainKeys := false, apart := false, narrowed := true }
def NormalWalksUptoSaid : Prop := normalWalksUptoRow.holds Try.pinned (OpenSpec.upto normalWalksSpec)

/-- 'standstilllaw02.NormalOnce', WHERE WHAT IT READS IS OF BULK AT MOST 1048576: true; the input reads as it did. -/
def normalOnceUptoRow : OpenClaim := { program := "ytggfcdjmeodggaa", sum := "3ba00445e85efecffb380a9c8bb35327fee0f11bc39d501c8487f391760ced48", func := "standstill/standstilllaw02.NormalOnce", spec := "normalOnce", unfollowed := true, recurses := true, plainKeys := false, apart := false, narrowed := true }
def NormalOnceUptoSaid : Prop := normalOnceUptoRow.holds Try.pinned (OpenSpec.upto normalOnceSpec)

end Rows
end Go.Proofs.Ytggfcdjmeodggaa
