/-
  No cell of these rows narrows 'for every input' (looked for: loops, veiled, ifaces, maps, wideKeys, modest, calm, conditions, laid).
  DERIVED. THE GIVEN ROWS OF THIS SEAT. 4 by the template 'for every input the law returns true; each argument reads behind the call as it read before'; 0 by the template 'total and deterministic' (their statements: YtlcefchlmdffeaaTotals.lean).
  GIVEN WITH THE SEED: the statements are not yours to turn. If you find one false, say at which input.
  Laid BY PROGRAM, IN A SANDBOX (cutbox-rows.mjs): the forced cells as the released guide's own fill.sh prints them over the translation dbb4f235a9f213db… (all of the seat's roots in one cut). By AI agents, Wed Nov 11 2026. No macro, syntax, notation, axiom, sorry.
-/
import Derived.Test.YtlcefchlmdffeaaChecked
import GoSem.Claim
import GoSem.ClaimJoined
import GoSem.ClaimMapViews
import Derived.JoinedTies
import Derived.KernelRfl
namespace Go.Proofs.Ytlcefchlmdffeaa
/- THE CELL 'sum', in the pinned program and in every row, IS THE sha256 OF THE DUMP (.gsa) THAT YtlcefchlmdffeaaProg.lean LOADS. Nothing in Lean hashes anything: it is a label: what it is worth is what the hold of that sum in a sandbox is worth. -/
noncomputable def Try.pinned : Pinned := { name := "ytlcefchlmdffeaa", sum := "dbb4f235a9f213db4170a859b55906a9873d11fd2347288c2834b591976418b2", checked := Try.checked }
namespace Rows
def none {H : Type} : Left H := { results := [], args := [] }

/-- 'laws.FnExactSameHeaps': WHATEVER THE INPUT: true; the input reads as it did. -/
def fnExactSameHeapsSpec : ChangeSpec := { name := "fnExactSameHeaps", fn := fun _ => fun
  | [d1, d2] => { results := [.lit (.bool true)], args := [d1, d2] }
  | _ => none }
def fnExactSameHeapsRow : OpenClaim := { program := "ytlcefchlmdffeaa", sum := "dbb4f235a9f213db4170a859b55906a9873d11fd2347288c2834b591976418b2", func := "loop.example/g01064/laws.FnExactSameHeaps", spec := "fnExactSameHeaps", apart := false }
def FnExactSameHeapsSaid : Prop := fnExactSameHeapsRow.holds Try.pinned (OpenSpec.ofChange fnExactSameHeapsSpec)

/-- ITS FALSE NEIGHBOUR: 'it returns false'. Refute it at one input. -/
def fnExactSameHeapsWrong : ChangeSpec := { name := "fnExactSameHeaps", fn := fun _ => fun
  | [d1, d2] => { results := [.lit (.bool false)], args := [d1, d2] }
  | _ => none }
def FnExactSameHeapsWrongFalsely : Prop := fnExactSameHeapsRow.holds Try.pinned (OpenSpec.ofChange fnExactSameHeapsWrong)

/-- 'laws.FnExactValidHeaps': WHATEVER THE INPUT: true; the input reads as it did. -/
def fnExactValidHeapsSpec : ChangeSpec := { name := "fnExactValidHeaps", fn := fun _ => fun
  | [d] => { results := [.lit (.bool true)], args := [d] }
  | _ => none }
def fnExactValidHeapsRow : OpenClaim := { program := "ytlcefchlmdffeaa", sum := "dbb4f235a9f213db4170a859b55906a9873d11fd2347288c2834b591976418b2", func := "loop.example/g01064/laws.FnExactValidHeaps", spec := "fnExactValidHeaps", inPlace := ["internal/bytealg.abigen_runtime_cmpstring"], apart := false }
def FnExactValidHeapsSaid : Prop := fnExactValidHeapsRow.holds Try.pinned (OpenSpec.ofChange fnExactValidHeapsSpec)

/-- ITS FALSE NEIGHBOUR: 'it returns false'. Refute it at one input. -/
def fnExactValidHeapsWrong : ChangeSpec := { name := "fnExactValidHeaps", fn := fun _ => fun
  | [d] => { results := [.lit (.bool false)], args := [d] }
  | _ => none }
def FnExactValidHeapsWrongFalsely : Prop := fnExactValidHeapsRow.holds Try.pinned (OpenSpec.ofChange fnExactValidHeapsWrong)

/-- 'laws.FnExactOldestYear': WHATEVER THE INPUT: true; the input reads as it did. -/
def fnExactOldestYearSpec : ChangeSpec := { name := "fnExactOldestYear", fn := fun _ => fun
  | [d1, d2] => { results := [.lit (.bool true)], args := [d1, d2] }
  | _ => none }
def fnExactOldestYearRow : OpenClaim := { program := "ytlcefchlmdffeaa", sum := "dbb4f235a9f213db4170a859b55906a9873d11fd2347288c2834b591976418b2", func := "loop.example/g01064/laws.FnExactOldestYear", spec := "fnExactOldestYear", inPlace := ["internal/bytealg.abigen_runtime_cmpstring"], apart := false }
def FnExactOldestYearSaid : Prop := fnExactOldestYearRow.holds Try.pinned (OpenSpec.ofChange fnExactOldestYearSpec)

/-- ITS FALSE NEIGHBOUR: 'it returns false'. Refute it at one input. -/
def fnExactOldestYearWrong : ChangeSpec := { name := "fnExactOldestYear", fn := fun _ => fun
  | [d1, d2] => { results := [.lit (.bool false)], args := [d1, d2] }
  | _ => none }
def FnExactOldestYearWrongFalsely : Prop := fnExactOldestYearRow.holds Try.pinned (OpenSpec.ofChange fnExactOldestYearWrong)

/-- 'laws.FnExactBundlesOf': WHATEVER THE INPUT: true; the input reads as it did. -/
def fnExactBundlesOfSpec : ChangeSpec := { name := "fnExactBundlesOf", fn := fun _ => fun
  | [d1, d2] => { results := [.lit (.bool true)], args := [d1, d2] }
  | _ => none }
def fnExactBundlesOfRow : OpenClaim := { program := "ytlcefchlmdffeaa", sum := "dbb4f235a9f213db4170a859b55906a9873d11fd2347288c2834b591976418b2", func := "loop.example/g01064/laws.FnExactBundlesOf", spec := "fnExactBundlesOf", inPlace := ["internal/bytealg.abigen_runtime_cmpstring"], apart := false }
def FnExactBundlesOfSaid : Prop := fnExactBundlesOfRow.holds Try.pinned (OpenSpec.ofChange fnExactBundlesOfSpec)

/-- ITS FALSE NEIGHBOUR: 'it returns false'. Refute it at one input. -/
def fnExactBundlesOfWrong : ChangeSpec := { name := "fnExactBundlesOf", fn := fun _ => fun
  | [d1, d2] => { results := [.lit (.bool false)], args := [d1, d2] }
  | _ => none }
def FnExactBundlesOfWrongFalsely : Prop := fnExactBundlesOfRow.holds Try.pinned (OpenSpec.ofChange fnExactBundlesOfWrong)

/- THE SECOND FORM. 'bulk': how many values and letters a reading holds, each counted each time it is reached (what is shared counts as often as it is met; a slice's spare places count too). A statement '..UptoSaid' is the law's where the arguments, and the package variables that the reading takes, are together of bulk at most 1048576: NARROWER than '..Said'. Prove '..Said' where nothing that the law and all that it calls make is longer than what came in: it says more and counts as full. Else prove '..UptoSaid'. A law counts once. -/
mutual
def uptoBulk {H : Type} : DataW H → Nat
  | .lit (.string bytes) => bytes.length + 1
  | .lit _ => 1
  | .nil => 1
  | .ptr d => uptoBulk d + 1
  | .slice elems spare => uptoBulkAll elems + uptoBulkAll spare + 1
  | .agg parts => uptoBulkAll parts + 1
  | .iface _ d => uptoBulk d + 1
  | .map entries => uptoBulkEntries entries + 1
  | .held _ => 1
def uptoBulkAll {H : Type} : List (DataW H) → Nat
  | [] => 0
  | d :: r => uptoBulk d + uptoBulkAll r
def uptoBulkEntries {H : Type} : List (Lit × DataW H) → Nat
  | [] => 0
  | x :: r => uptoBulkEntry x + uptoBulkEntries r
def uptoBulkEntry {H : Type} : Lit × DataW H → Nat
  | (.string bytes, d) => bytes.length + uptoBulk d + 1
  | (_, d) => uptoBulk d + 1
 end
def uptoSmall : (H : Type) → List (DataW H) → Bool := fun _ ds => decide (uptoBulkAll ds ≤ 1048576)
def OpenSpec.upto (s : _root_.Go.ChangeSpec) : _root_.Go.OpenSpec := { _root_.Go.OpenSpec.ofChange s with cond := some uptoSmall }

/-- 'laws.FnExactSameHeaps', WHERE WHAT IT READS IS OF BULK AT MOST 1048576: true; the input reads as it did. -/
def fnExactSameHeapsUptoRow : OpenClaim := { program := "ytlcefchlmdffeaa", sum := "dbb4f235a9f213db4170a859b55906a9873d11fd2347288c2834b591976418b2", func := "loop.example/g01064/laws.FnExactSameHeaps", spec := "fnExactSameHeaps", apart := false, narrowed := true }
def FnExactSameHeapsUptoSaid : Prop := fnExactSameHeapsUptoRow.holds Try.pinned (OpenSpec.upto fnExactSameHeapsSpec)

/-- 'laws.FnExactValidHeaps', WHERE WHAT IT READS IS OF BULK AT MOST 1048576: true; the input reads as it did. -/
def fnExactValidHeapsUptoRow : OpenClaim := { program := "ytlcefchlmdffeaa", sum := "dbb4f235a9f213db4170a859b55906a9873d11fd2347288c2834b591976418b2", func := "loop.example/g01064/laws.FnExactValidHeaps", spec := "fnExactValidHeaps", inPlace := ["internal/bytealg.abigen_runtime_cmpstring"], apart := false, narrowed := true }
def FnExactValidHeapsUptoSaid : Prop := fnExactValidHeapsUptoRow.holds Try.pinned (OpenSpec.upto fnExactValidHeapsSpec)

/-- 'laws.FnExactOldestYear', WHERE WHAT IT READS IS OF BULK AT MOST 1048576: true; the input reads as it did. -/
def fnExactOldestYearUptoRow : OpenClaim := { program := "ytlcefchlmdffeaa", sum := "dbb4f235a9f213db4170a859b55906a9873d11fd2347288c2834b591976418b2", func := "loop.example/g01064/laws.FnExactOldestYear", spec := "fnExactOldestYear", inPlace := ["internal/bytealg.abigen_runtime_cmpstring"], apart := false, narrowed := true }
def FnExactOldestYearUptoSaid : Prop := fnExactOldestYearUptoRow.holds Try.pinned (OpenSpec.upto fnExactOldestYearSpec)

/-- 'laws.FnExactBundlesOf', WHERE WHAT IT READS IS OF BULK AT MOST 1048576: true; the input reads as it did. -/
def fnExactBundlesOfUptoRow : OpenClaim := { program := "ytlcefchlmdffeaa", sum := "dbb4f235a9f213db4170a859b55906a9873d11fd2347288c2834b591976418b2", func := "loop.example/g01064/laws.FnExactBundlesOf", spec := "fnExactBundlesOf", inPlace := ["internal/bytealg.abigen_runtime_cmpstring"], apart := false, narrowed := true }
def FnExactBundlesOfUptoSaid : Prop := fnExactBundlesOfUptoRow.holds Try.pinned (OpenSpec.upto fnExactBundlesOfSpec)

end Rows
end Go.Proofs.Ytlcefchlmdffeaa
