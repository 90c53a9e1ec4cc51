/-
  No cell of these rows narrows 'for every input' (looked for: loops, veiled, ifaces, maps, wideKeys, modest, calm, conditions, laid).
  DERIVED. THE GIVEN ROWS OF THIS SEAT. 6 by the template 'for every input the law returns true; each argument reads behind the call as it read before'; 0 by the template 'total and deterministic' (their statements: YtielbajlpnplaaaTotals.lean).
  GIVEN WITH THE SEED: the statements are not yours to turn. If you find one false, say at which input.
  Laid BY PROGRAM, IN A SANDBOX (cutbox-rows.mjs): the forced cells as the released guide's own fill.sh prints them over the translation 5235cc3a543bb765… (all of the seat's roots in one cut). By AI agents, Wed Nov 11 2026. No macro, syntax, notation, axiom, sorry.
-/
import Derived.Test.YtielbajlpnplaaaChecked
import GoSem.Claim
import GoSem.ClaimJoined
import GoSem.ClaimMapViews
import Derived.JoinedTies
import Derived.KernelRfl
namespace Go.Proofs.Ytielbajlpnplaaa
/- THE CELL 'sum', in the pinned program and in every row, IS THE sha256 OF THE DUMP (.gsa) THAT YtielbajlpnplaaaProg.lean LOADS. Nothing in Lean hashes anything: it is a label: what it is worth is what the hold of that sum in a sandbox is worth. -/
noncomputable def Try.pinned : Pinned := { name := "ytielbajlpnplaaa", sum := "5235cc3a543bb765e14727659c442eb945f80b405772df6df77bd5839700eda1", checked := Try.checked }
namespace Rows
def none {H : Type} : Left H := { results := [], args := [] }

/-- 'laws.FnExactFitsIn': WHATEVER THE INPUT: true; the input reads as it did. -/
def fnExactFitsInSpec : ChangeSpec := { name := "fnExactFitsIn", fn := fun _ => fun
  | [d1, d2] => { results := [.lit (.bool true)], args := [d1, d2] }
  | _ => none }
def fnExactFitsInRow : OpenClaim := { program := "ytielbajlpnplaaa", sum := "5235cc3a543bb765e14727659c442eb945f80b405772df6df77bd5839700eda1", func := "loop.example/g01064/laws.FnExactFitsIn", spec := "fnExactFitsIn", apart := false }
def FnExactFitsInSaid : Prop := fnExactFitsInRow.holds Try.pinned (OpenSpec.ofChange fnExactFitsInSpec)

/-- ITS FALSE NEIGHBOUR: 'it returns false'. Refute it at one input. -/
def fnExactFitsInWrong : ChangeSpec := { name := "fnExactFitsIn", fn := fun _ => fun
  | [d1, d2] => { results := [.lit (.bool false)], args := [d1, d2] }
  | _ => none }
def FnExactFitsInWrongFalsely : Prop := fnExactFitsInRow.holds Try.pinned (OpenSpec.ofChange fnExactFitsInWrong)

/-- 'laws.FnExactDeepIn': WHATEVER THE INPUT: true; the input reads as it did. -/
def fnExactDeepInSpec : ChangeSpec := { name := "fnExactDeepIn", fn := fun _ => fun
  | [d1, d2] => { results := [.lit (.bool true)], args := [d1, d2] }
  | _ => none }
def fnExactDeepInRow : OpenClaim := { program := "ytielbajlpnplaaa", sum := "5235cc3a543bb765e14727659c442eb945f80b405772df6df77bd5839700eda1", func := "loop.example/g01064/laws.FnExactDeepIn", spec := "fnExactDeepIn", apart := false }
def FnExactDeepInSaid : Prop := fnExactDeepInRow.holds Try.pinned (OpenSpec.ofChange fnExactDeepInSpec)

/-- ITS FALSE NEIGHBOUR: 'it returns false'. Refute it at one input. -/
def fnExactDeepInWrong : ChangeSpec := { name := "fnExactDeepIn", fn := fun _ => fun
  | [d1, d2] => { results := [.lit (.bool false)], args := [d1, d2] }
  | _ => none }
def FnExactDeepInWrongFalsely : Prop := fnExactDeepInRow.holds Try.pinned (OpenSpec.ofChange fnExactDeepInWrong)

/-- 'laws.FnExactLidFits': WHATEVER THE INPUT: true; the input reads as it did. -/
def fnExactLidFitsSpec : ChangeSpec := { name := "fnExactLidFits", fn := fun _ => fun
  | [d1, d2, d3] => { results := [.lit (.bool true)], args := [d1, d2, d3] }
  | _ => none }
def fnExactLidFitsRow : OpenClaim := { program := "ytielbajlpnplaaa", sum := "5235cc3a543bb765e14727659c442eb945f80b405772df6df77bd5839700eda1", func := "loop.example/g01064/laws.FnExactLidFits", spec := "fnExactLidFits", apart := false }
def FnExactLidFitsSaid : Prop := fnExactLidFitsRow.holds Try.pinned (OpenSpec.ofChange fnExactLidFitsSpec)

/-- ITS FALSE NEIGHBOUR: 'it returns false'. Refute it at one input. -/
def fnExactLidFitsWrong : ChangeSpec := { name := "fnExactLidFits", fn := fun _ => fun
  | [d1, d2, d3] => { results := [.lit (.bool false)], args := [d1, d2, d3] }
  | _ => none }
def FnExactLidFitsWrongFalsely : Prop := fnExactLidFitsRow.holds Try.pinned (OpenSpec.ofChange fnExactLidFitsWrong)

/-- 'laws.FnExactSlackOf': WHATEVER THE INPUT: true; the input reads as it did. -/
def fnExactSlackOfSpec : ChangeSpec := { name := "fnExactSlackOf", fn := fun _ => fun
  | [d1, d2] => { results := [.lit (.bool true)], args := [d1, d2] }
  | _ => none }
def fnExactSlackOfRow : OpenClaim := { program := "ytielbajlpnplaaa", sum := "5235cc3a543bb765e14727659c442eb945f80b405772df6df77bd5839700eda1", func := "loop.example/g01064/laws.FnExactSlackOf", spec := "fnExactSlackOf", apart := false }
def FnExactSlackOfSaid : Prop := fnExactSlackOfRow.holds Try.pinned (OpenSpec.ofChange fnExactSlackOfSpec)

/-- ITS FALSE NEIGHBOUR: 'it returns false'. Refute it at one input. -/
def fnExactSlackOfWrong : ChangeSpec := { name := "fnExactSlackOf", fn := fun _ => fun
  | [d1, d2] => { results := [.lit (.bool false)], args := [d1, d2] }
  | _ => none }
def FnExactSlackOfWrongFalsely : Prop := fnExactSlackOfRow.holds Try.pinned (OpenSpec.ofChange fnExactSlackOfWrong)

/-- 'laws.FnExactValidKinds': WHATEVER THE INPUT: true; the input reads as it did. -/
def fnExactValidKindsSpec : ChangeSpec := { name := "fnExactValidKinds", fn := fun _ => fun
  | [d] => { results := [.lit (.bool true)], args := [d] }
  | _ => none }
def fnExactValidKindsRow : OpenClaim := { program := "ytielbajlpnplaaa", sum := "5235cc3a543bb765e14727659c442eb945f80b405772df6df77bd5839700eda1", func := "loop.example/g01064/laws.FnExactValidKinds", spec := "fnExactValidKinds", apart := false }
def FnExactValidKindsSaid : Prop := fnExactValidKindsRow.holds Try.pinned (OpenSpec.ofChange fnExactValidKindsSpec)

/-- ITS FALSE NEIGHBOUR: 'it returns false'. Refute it at one input. -/
def fnExactValidKindsWrong : ChangeSpec := { name := "fnExactValidKinds", fn := fun _ => fun
  | [d] => { results := [.lit (.bool false)], args := [d] }
  | _ => none }
def FnExactValidKindsWrongFalsely : Prop := fnExactValidKindsRow.holds Try.pinned (OpenSpec.ofChange fnExactValidKindsWrong)

/-- 'laws.FnExactSameKinds': WHATEVER THE INPUT: true; the input reads as it did. -/
def fnExactSameKindsSpec : ChangeSpec := { name := "fnExactSameKinds", fn := fun _ => fun
  | [d1, d2] => { results := [.lit (.bool true)], args := [d1, d2] }
  | _ => none }
def fnExactSameKindsRow : OpenClaim := { program := "ytielbajlpnplaaa", sum := "5235cc3a543bb765e14727659c442eb945f80b405772df6df77bd5839700eda1", func := "loop.example/g01064/laws.FnExactSameKinds", spec := "fnExactSameKinds", apart := false }
def FnExactSameKindsSaid : Prop := fnExactSameKindsRow.holds Try.pinned (OpenSpec.ofChange fnExactSameKindsSpec)

/-- ITS FALSE NEIGHBOUR: 'it returns false'. Refute it at one input. -/
def fnExactSameKindsWrong : ChangeSpec := { name := "fnExactSameKinds", fn := fun _ => fun
  | [d1, d2] => { results := [.lit (.bool false)], args := [d1, d2] }
  | _ => none }
def FnExactSameKindsWrongFalsely : Prop := fnExactSameKindsRow.holds Try.pinned (OpenSpec.ofChange fnExactSameKindsWrong)

/- THE SECOND FORM. 'bulk': how many values and letters a reading holds, each counted each time it is reached (what is shared counts as often as it is met; a slice's spare places count too). A statement '..UptoSaid' is the law's where the arguments, and the package variables that the reading takes, are together of bulk at most 1048576: NARROWER than '..Said'. Prove '..Said' where nothing that the law and all that it calls make is longer than what came in: it says more and counts as full. Else prove '..UptoSaid'. A law counts once. -/
mutual
def uptoBulk {H : Type} : DataW H → Nat
  | .lit (.string bytes) => bytes.length + 1
  | .lit _ => 1
  | .nil => 1
  | .ptr d => uptoBulk d + 1
  | .slice elems spare => uptoBulkAll elems + uptoBulkAll spare + 1
  | .agg parts => uptoBulkAll parts + 1
  | .iface _ d => uptoBulk d + 1
  | .map entries => uptoBulkEntries entries + 1
  | .held _ => 1
def uptoBulkAll {H : Type} : List (DataW H) → Nat
  | [] => 0
  | d :: r => uptoBulk d + uptoBulkAll r
def uptoBulkEntries {H : Type} : List (Lit × DataW H) → Nat
  | [] => 0
  | x :: r => uptoBulkEntry x + uptoBulkEntries r
def uptoBulkEntry {H : Type} : Lit × DataW H → Nat
  | (.string bytes, d) => bytes.length + uptoBulk d + 1
  | (_, d) => uptoBulk d + 1
 end
def uptoSmall : (H : Type) → List (DataW H) → Bool := fun _ ds => decide (uptoBulkAll ds ≤ 1048576)
def OpenSpec.upto (s : _root_.Go.ChangeSpec) : _root_.Go.OpenSpec := { _root_.Go.OpenSpec.ofChange s with cond := some uptoSmall }

/-- 'laws.FnExactFitsIn', WHERE WHAT IT READS IS OF BULK AT MOST 1048576: true; the input reads as it did. -/
def fnExactFitsInUptoRow : OpenClaim := { program := "ytielbajlpnplaaa", sum := "5235cc3a543bb765e14727659c442eb945f80b405772df6df77bd5839700eda1", func := "loop.example/g01064/laws.FnExactFitsIn", spec := "fnExactFitsIn", apart := false, narrowed := true }
def FnExactFitsInUptoSaid : Prop := fnExactFitsInUptoRow.holds Try.pinned (OpenSpec.upto fnExactFitsInSpec)

/-- 'laws.FnExactDeepIn', WHERE WHAT IT READS IS OF BULK AT MOST 1048576: true; the input reads as it did. -/
def fnExactDeepInUptoRow : OpenClaim := { program := "ytielbajlpnplaaa", sum := "5235cc3a543bb765e14727659c442eb945f80b405772df6df77bd5839700eda1", func := "loop.example/g01064/laws.FnExactDeepIn", spec := "fnExactDeepIn", apart := false, narrowed := true }
def FnExactDeepInUptoSaid : Prop := fnExactDeepInUptoRow.holds Try.pinned (OpenSpec.upto fnExactDeepInSpec)

/-- 'laws.FnExactLidFits', WHERE WHAT IT READS IS OF BULK AT MOST 1048576: true; the input reads as it did. -/
def fnExactLidFitsUptoRow : OpenClaim := { program := "ytielbajlpnplaaa", sum := "5235cc3a543bb765e14727659c442eb945f80b405772df6df77bd5839700eda1", func := "loop.example/g01064/laws.FnExactLidFits", spec := "fnExactLidFits", apart := false, narrowed := true }
def FnExactLidFitsUptoSaid : Prop := fnExactLidFitsUptoRow.holds Try.pinned (OpenSpec.upto fnExactLidFitsSpec)

/-- 'laws.FnExactSlackOf', WHERE WHAT IT READS IS OF BULK AT MOST 1048576: true; the input reads as it did. -/
def fnExactSlackOfUptoRow : OpenClaim := { program := "ytielbajlpnplaaa", sum := "5235cc3a543bb765e14727659c442eb945f80b405772df6df77bd5839700eda1", func := "loop.example/g01064/laws.FnExactSlackOf", spec := "fnExactSlackOf", apart := false, narrowed := true }
def FnExactSlackOfUptoSaid : Prop := fnExactSlackOfUptoRow.holds Try.pinned (OpenSpec.upto fnExactSlackOfSpec)

/-- 'laws.FnExactValidKinds', WHERE WHAT IT READS IS OF BULK AT MOST 1048576: true; the input reads as it did. -/
def fnExactValidKindsUptoRow : OpenClaim := { program := "ytielbajlpnplaaa", sum := "5235cc3a543bb765e14727659c442eb945f80b405772df6df77bd5839700eda1", func := "loop.example/g01064/laws.FnExactValidKinds", spec := "fnExactValidKinds", apart := false, narrowed := true }
def FnExactValidKindsUptoSaid : Prop := fnExactValidKindsUptoRow.holds Try.pinned (OpenSpec.upto fnExactValidKindsSpec)

/-- 'laws.FnExactSameKinds', WHERE WHAT IT READS IS OF BULK AT MOST 1048576: true; the input reads as it did. -/
def fnExactSameKindsUptoRow : OpenClaim := { program := "ytielbajlpnplaaa", sum := "5235cc3a543bb765e14727659c442eb945f80b405772df6df77bd5839700eda1", func := "loop.example/g01064/laws.FnExactSameKinds", spec := "fnExactSameKinds", apart := false, narrowed := true }
def FnExactSameKindsUptoSaid : Prop := fnExactSameKindsUptoRow.holds Try.pinned (OpenSpec.upto fnExactSameKindsSpec)

end Rows
end Go.Proofs.Ytielbajlpnplaaa
