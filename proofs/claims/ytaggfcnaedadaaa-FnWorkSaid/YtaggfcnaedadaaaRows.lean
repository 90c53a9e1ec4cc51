/-
  No cell of these rows narrows 'for every input' (looked for: loops, veiled, ifaces, maps, wideKeys, modest, calm, conditions, laid).
  DERIVED. THE GIVEN ROWS OF THIS SEAT. 11 by the template 'for every input the law returns true; each argument reads behind the call as it read before'; 0 by the template 'total and deterministic' (their statements: YtaggfcnaedadaaaTotals.lean).
  GIVEN WITH THE SEED: the statements are not yours to turn. If you find one false, say at which input.
  Laid BY PROGRAM, IN A SANDBOX (cutbox-rows.mjs): the forced cells as the released guide's own fill.sh prints them over the translation 9f830489f3a01a8d… (all of the seat's roots in one cut). By AI agents, Wed Nov 11 2026. No macro, syntax, notation, axiom, sorry.
-/
import Derived.Test.YtaggfcnaedadaaaChecked
import GoSem.Claim
import GoSem.ClaimJoined
import GoSem.ClaimMapViews
import Derived.JoinedTies
import Derived.KernelRfl
namespace Go.Proofs.Ytaggfcnaedadaaa
/- THE CELL 'sum', in the pinned program and in every row, IS THE sha256 OF THE DUMP (.gsa) THAT YtaggfcnaedadaaaProg.lean LOADS. Nothing in Lean hashes anything: it is a label: what it is worth is what the hold of that sum in a sandbox is worth. -/
noncomputable def Try.pinned : Pinned := { name := "ytaggfcnaedadaaa", sum := "9f830489f3a01a8dabd8306e4480f97497938e2b46a0f63973eeed4f06fb90ec", checked := Try.checked }
namespace Rows
def none {H : Type} : Left H := { results := [], args := [] }

/-- 'laws.FnExactValidJobs': WHATEVER THE INPUT: true; the input reads as it did. -/
def fnExactValidJobsSpec : ChangeSpec := { name := "fnExactValidJobs", fn := fun _ => fun
  | [d1, d2] => { results := [.lit (.bool true)], args := [d1, d2] }
  | _ => none }
def fnExactValidJobsRow : OpenClaim := { program := "ytaggfcnaedadaaa", sum := "9f830489f3a01a8dabd8306e4480f97497938e2b46a0f63973eeed4f06fb90ec", func := "loop.example/g01064/laws.FnExactValidJobs", spec := "fnExactValidJobs", apart := false }
def FnExactValidJobsSaid : Prop := fnExactValidJobsRow.holds Try.pinned (OpenSpec.ofChange fnExactValidJobsSpec)

/-- ITS FALSE NEIGHBOUR: 'it returns false'. Refute it at one input. -/
def fnExactValidJobsWrong : ChangeSpec := { name := "fnExactValidJobs", fn := fun _ => fun
  | [d1, d2] => { results := [.lit (.bool false)], args := [d1, d2] }
  | _ => none }
def FnExactValidJobsWrongFalsely : Prop := fnExactValidJobsRow.holds Try.pinned (OpenSpec.ofChange fnExactValidJobsWrong)

/-- 'laws.FnExactJobsFor': WHATEVER THE INPUT: true; the input reads as it did. -/
def fnExactJobsForSpec : ChangeSpec := { name := "fnExactJobsFor", fn := fun _ => fun
  | [d1, d2, d3] => { results := [.lit (.bool true)], args := [d1, d2, d3] }
  | _ => none }
def fnExactJobsForRow : OpenClaim := { program := "ytaggfcnaedadaaa", sum := "9f830489f3a01a8dabd8306e4480f97497938e2b46a0f63973eeed4f06fb90ec", func := "loop.example/g01064/laws.FnExactJobsFor", spec := "fnExactJobsFor", apart := false }
def FnExactJobsForSaid : Prop := fnExactJobsForRow.holds Try.pinned (OpenSpec.ofChange fnExactJobsForSpec)

/-- ITS FALSE NEIGHBOUR: 'it returns false'. Refute it at one input. -/
def fnExactJobsForWrong : ChangeSpec := { name := "fnExactJobsFor", fn := fun _ => fun
  | [d1, d2, d3] => { results := [.lit (.bool false)], args := [d1, d2, d3] }
  | _ => none }
def FnExactJobsForWrongFalsely : Prop := fnExactJobsForRow.holds Try.pinned (OpenSpec.ofChange fnExactJobsForWrong)

/-- 'laws.FnExactLeastSkill': WHATEVER THE INPUT: true; the input reads as it did. -/
def fnExactLeastSkillSpec : ChangeSpec := { name := "fnExactLeastSkill", fn := fun _ => fun
  | [d1, d2] => { results := [.lit (.bool true)], args := [d1, d2] }
  | _ => none }
def fnExactLeastSkillRow : OpenClaim := { program := "ytaggfcnaedadaaa", sum := "9f830489f3a01a8dabd8306e4480f97497938e2b46a0f63973eeed4f06fb90ec", func := "loop.example/g01064/laws.FnExactLeastSkill", spec := "fnExactLeastSkill", apart := false }
def FnExactLeastSkillSaid : Prop := fnExactLeastSkillRow.holds Try.pinned (OpenSpec.ofChange fnExactLeastSkillSpec)

/-- ITS FALSE NEIGHBOUR: 'it returns false'. Refute it at one input. -/
def fnExactLeastSkillWrong : ChangeSpec := { name := "fnExactLeastSkill", fn := fun _ => fun
  | [d1, d2] => { results := [.lit (.bool false)], args := [d1, d2] }
  | _ => none }
def FnExactLeastSkillWrongFalsely : Prop := fnExactLeastSkillRow.holds Try.pinned (OpenSpec.ofChange fnExactLeastSkillWrong)

/-- 'laws.FnExactSkillMissing': WHATEVER THE INPUT: true; the input reads as it did. -/
def fnExactSkillMissingSpec : ChangeSpec := { name := "fnExactSkillMissing", fn := fun _ => fun
  | [d1, d2] => { results := [.lit (.bool true)], args := [d1, d2] }
  | _ => none }
def fnExactSkillMissingRow : OpenClaim := { program := "ytaggfcnaedadaaa", sum := "9f830489f3a01a8dabd8306e4480f97497938e2b46a0f63973eeed4f06fb90ec", func := "loop.example/g01064/laws.FnExactSkillMissing", spec := "fnExactSkillMissing", apart := false }
def FnExactSkillMissingSaid : Prop := fnExactSkillMissingRow.holds Try.pinned (OpenSpec.ofChange fnExactSkillMissingSpec)

/-- ITS FALSE NEIGHBOUR: 'it returns false'. Refute it at one input. -/
def fnExactSkillMissingWrong : ChangeSpec := { name := "fnExactSkillMissing", fn := fun _ => fun
  | [d1, d2] => { results := [.lit (.bool false)], args := [d1, d2] }
  | _ => none }
def FnExactSkillMissingWrongFalsely : Prop := fnExactSkillMissingRow.holds Try.pinned (OpenSpec.ofChange fnExactSkillMissingWrong)

/-- 'laws.FnExactEndOfWork': WHATEVER THE INPUT: true; the input reads as it did. -/
def fnExactEndOfWorkSpec : ChangeSpec := { name := "fnExactEndOfWork", fn := fun _ => fun
  | [d1, d2, d3] => { results := [.lit (.bool true)], args := [d1, d2, d3] }
  | _ => none }
def fnExactEndOfWorkRow : OpenClaim := { program := "ytaggfcnaedadaaa", sum := "9f830489f3a01a8dabd8306e4480f97497938e2b46a0f63973eeed4f06fb90ec", func := "loop.example/g01064/laws.FnExactEndOfWork", spec := "fnExactEndOfWork", apart := false }
def FnExactEndOfWorkSaid : Prop := fnExactEndOfWorkRow.holds Try.pinned (OpenSpec.ofChange fnExactEndOfWorkSpec)

/-- ITS FALSE NEIGHBOUR: 'it returns false'. Refute it at one input. -/
def fnExactEndOfWorkWrong : ChangeSpec := { name := "fnExactEndOfWork", fn := fun _ => fun
  | [d1, d2, d3] => { results := [.lit (.bool false)], args := [d1, d2, d3] }
  | _ => none }
def FnExactEndOfWorkWrongFalsely : Prop := fnExactEndOfWorkRow.holds Try.pinned (OpenSpec.ofChange fnExactEndOfWorkWrong)

/-- 'laws.FnExactLoadsOf': WHATEVER THE INPUT: true; the input reads as it did. -/
def fnExactLoadsOfSpec : ChangeSpec := { name := "fnExactLoadsOf", fn := fun _ => fun
  | [d1, d2, d3] => { results := [.lit (.bool true)], args := [d1, d2, d3] }
  | _ => none }
def fnExactLoadsOfRow : OpenClaim := { program := "ytaggfcnaedadaaa", sum := "9f830489f3a01a8dabd8306e4480f97497938e2b46a0f63973eeed4f06fb90ec", func := "loop.example/g01064/laws.FnExactLoadsOf", spec := "fnExactLoadsOf", apart := false }
def FnExactLoadsOfSaid : Prop := fnExactLoadsOfRow.holds Try.pinned (OpenSpec.ofChange fnExactLoadsOfSpec)

/-- ITS FALSE NEIGHBOUR: 'it returns false'. Refute it at one input. -/
def fnExactLoadsOfWrong : ChangeSpec := { name := "fnExactLoadsOf", fn := fun _ => fun
  | [d1, d2, d3] => { results := [.lit (.bool false)], args := [d1, d2, d3] }
  | _ => none }
def FnExactLoadsOfWrongFalsely : Prop := fnExactLoadsOfRow.holds Try.pinned (OpenSpec.ofChange fnExactLoadsOfWrong)

/-- 'laws.FnExactIdleHours': WHATEVER THE INPUT: true; the input reads as it did. -/
def fnExactIdleHoursSpec : ChangeSpec := { name := "fnExactIdleHours", fn := fun _ => fun
  | [d1, d2, d3] => { results := [.lit (.bool true)], args := [d1, d2, d3] }
  | _ => none }
def fnExactIdleHoursRow : OpenClaim := { program := "ytaggfcnaedadaaa", sum := "9f830489f3a01a8dabd8306e4480f97497938e2b46a0f63973eeed4f06fb90ec", func := "loop.example/g01064/laws.FnExactIdleHours", spec := "fnExactIdleHours", apart := false }
def FnExactIdleHoursSaid : Prop := fnExactIdleHoursRow.holds Try.pinned (OpenSpec.ofChange fnExactIdleHoursSpec)

/-- ITS FALSE NEIGHBOUR: 'it returns false'. Refute it at one input. -/
def fnExactIdleHoursWrong : ChangeSpec := { name := "fnExactIdleHours", fn := fun _ => fun
  | [d1, d2, d3] => { results := [.lit (.bool false)], args := [d1, d2, d3] }
  | _ => none }
def FnExactIdleHoursWrongFalsely : Prop := fnExactIdleHoursRow.holds Try.pinned (OpenSpec.ofChange fnExactIdleHoursWrong)

/-- 'laws.FnExactEarliestEnd': WHATEVER THE INPUT: true; the input reads as it did. -/
def fnExactEarliestEndSpec : ChangeSpec := { name := "fnExactEarliestEnd", fn := fun _ => fun
  | [d1, d2] => { results := [.lit (.bool true)], args := [d1, d2] }
  | _ => none }
def fnExactEarliestEndRow : OpenClaim := { program := "ytaggfcnaedadaaa", sum := "9f830489f3a01a8dabd8306e4480f97497938e2b46a0f63973eeed4f06fb90ec", func := "loop.example/g01064/laws.FnExactEarliestEnd", spec := "fnExactEarliestEnd", unfollowed := true, recurses := true, apart := false }
def FnExactEarliestEndSaid : Prop := fnExactEarliestEndRow.holds Try.pinned (OpenSpec.ofChange fnExactEarliestEndSpec)

/-- ITS FALSE NEIGHBOUR: 'it returns false'. Refute it at one input. -/
def fnExactEarliestEndWrong : ChangeSpec := { name := "fnExactEarliestEnd", fn := fun _ => fun
  | [d1, d2] => { results := [.lit (.bool false)], args := [d1, d2] }
  | _ => none }
def FnExactEarliestEndWrongFalsely : Prop := fnExactEarliestEndRow.holds Try.pinned (OpenSpec.ofChange fnExactEarliestEndWrong)

/-- 'laws.FnExactLongFirst': WHATEVER THE INPUT: true; the input reads as it did. -/
def fnExactLongFirstSpec : ChangeSpec := { name := "fnExactLongFirst", fn := fun _ => fun
  | [d1, d2] => { results := [.lit (.bool true)], args := [d1, d2] }
  | _ => none }
def fnExactLongFirstRow : OpenClaim := { program := "ytaggfcnaedadaaa", sum := "9f830489f3a01a8dabd8306e4480f97497938e2b46a0f63973eeed4f06fb90ec", func := "loop.example/g01064/laws.FnExactLongFirst", spec := "fnExactLongFirst", unfollowed := true, recurses := true, apart := false }
def FnExactLongFirstSaid : Prop := fnExactLongFirstRow.holds Try.pinned (OpenSpec.ofChange fnExactLongFirstSpec)

/-- ITS FALSE NEIGHBOUR: 'it returns false'. Refute it at one input. -/
def fnExactLongFirstWrong : ChangeSpec := { name := "fnExactLongFirst", fn := fun _ => fun
  | [d1, d2] => { results := [.lit (.bool false)], args := [d1, d2] }
  | _ => none }
def FnExactLongFirstWrongFalsely : Prop := fnExactLongFirstRow.holds Try.pinned (OpenSpec.ofChange fnExactLongFirstWrong)

/-- 'laws.FnWork': WHATEVER THE INPUT: true; the input reads as it did. -/
def fnWorkSpec : ChangeSpec := { name := "fnWork", fn := fun _ => fun
  | [d] => { results := [.lit (.bool true)], args := [d] }
  | _ => none }
def fnWorkRow : OpenClaim := { program := "ytaggfcnaedadaaa", sum := "9f830489f3a01a8dabd8306e4480f97497938e2b46a0f63973eeed4f06fb90ec", func := "loop.example/g01064/laws.FnWork", spec := "fnWork", unfollowed := true, recurses := true, apart := false }
def FnWorkSaid : Prop := fnWorkRow.holds Try.pinned (OpenSpec.ofChange fnWorkSpec)

/-- ITS FALSE NEIGHBOUR: 'it returns false'. Refute it at one input. -/
def fnWorkWrong : ChangeSpec := { name := "fnWork", fn := fun _ => fun
  | [d] => { results := [.lit (.bool false)], args := [d] }
  | _ => none }
def FnWorkWrongFalsely : Prop := fnWorkRow.holds Try.pinned (OpenSpec.ofChange fnWorkWrong)

/-- 'laws.FnSkills': WHATEVER THE INPUT: true; the input reads as it did. -/
def fnSkillsSpec : ChangeSpec := { name := "fnSkills", fn := fun _ => fun
  | [d] => { results := [.lit (.bool true)], args := [d] }
  | _ => none }
def fnSkillsRow : OpenClaim := { program := "ytaggfcnaedadaaa", sum := "9f830489f3a01a8dabd8306e4480f97497938e2b46a0f63973eeed4f06fb90ec", func := "loop.example/g01064/laws.FnSkills", spec := "fnSkills", unfollowed := true, recurses := true, apart := false }
def FnSkillsSaid : Prop := fnSkillsRow.holds Try.pinned (OpenSpec.ofChange fnSkillsSpec)

/-- ITS FALSE NEIGHBOUR: 'it returns false'. Refute it at one input. -/
def fnSkillsWrong : ChangeSpec := { name := "fnSkills", fn := fun _ => fun
  | [d] => { results := [.lit (.bool false)], args := [d] }
  | _ => none }
def FnSkillsWrongFalsely : Prop := fnSkillsRow.holds Try.pinned (OpenSpec.ofChange fnSkillsWrong)

/- THE SECOND FORM. 'bulk': how many values and letters a reading holds, each counted each time it is reached (what is shared counts as often as it is met; a slice's spare places count too). A statement '..UptoSaid' is the law's where the arguments, and the package variables that the reading takes, are together of bulk at most 1048576: NARROWER than '..Said'. Prove '..Said' where nothing that the law and all that it calls make is longer than what came in: it says more and counts as full. Else prove '..UptoSaid'. A law counts once. -/
mutual
def uptoBulk {H : Type} : DataW H → Nat
  | .lit (.string bytes) => bytes.length + 1
  | .lit _ => 1
  | .nil => 1
  | .ptr d => uptoBulk d + 1
  | .slice elems spare => uptoBulkAll elems + uptoBulkAll spare + 1
  | .agg parts => uptoBulkAll parts + 1
  | .iface _ d => uptoBulk d + 1
  | .map entries => uptoBulkEntries entries + 1
  | .held _ => 1
def uptoBulkAll {H : Type} : List (DataW H) → Nat
  | [] => 0
  | d :: r => uptoBulk d + uptoBulkAll r
def uptoBulkEntries {H : Type} : List (Lit × DataW H) → Nat
  | [] => 0
  | x :: r => uptoBulkEntry x + uptoBulkEntries r
def uptoBulkEntry {H : Type} : Lit × DataW H → Nat
  | (.string bytes, d) => bytes.length + uptoBulk d + 1
  | (_, d) => uptoBulk d + 1
 end
def uptoSmall : (H : Type) → List (DataW H) → Bool := fun _ ds => decide (uptoBulkAll ds ≤ 1048576)
def OpenSpec.upto (s : _root_.Go.ChangeSpec) : _root_.Go.OpenSpec := { _root_.Go.OpenSpec.ofChange s with cond := some uptoSmall }

/-- 'laws.FnExactValidJobs', WHERE WHAT IT READS IS OF BULK AT MOST 1048576: true; the input reads as it did. -/
def fnExactValidJobsUptoRow : OpenClaim := { program := "ytaggfcnaedadaaa", sum := "9f830489f3a01a8dabd8306e4480f97497938e2b46a0f63973eeed4f06fb90ec", func := "loop.example/g01064/laws.FnExactValidJobs", spec := "fnExactValidJobs", apart := false, narrowed := true }
def FnExactValidJobsUptoSaid : Prop := fnExactValidJobsUptoRow.holds Try.pinned (OpenSpec.upto fnExactValidJobsSpec)

/-- 'laws.FnExactJobsFor', WHERE WHAT IT READS IS OF BULK AT MOST 1048576: true; the input reads as it did. -/
def fnExactJobsForUptoRow : OpenClaim := { program := "ytaggfcnaedadaaa", sum := "9f830489f3a01a8dabd8306e4480f97497938e2b46a0f63973eeed4f06fb90ec", func := "loop.example/g01064/laws.FnExactJobsFor", spec := "fnExactJobsFor", apart := false, narrowed := true }
def FnExactJobsForUptoSaid : Prop := fnExactJobsForUptoRow.holds Try.pinned (OpenSpec.upto fnExactJobsForSpec)

/-- 'laws.FnExactLeastSkill', WHERE WHAT IT READS IS OF BULK AT MOST 1048576: true; the input reads as it did. -/
def fnExactLeastSkillUptoRow : OpenClaim := { program := "ytaggfcnaedadaaa", sum := "9f830489f3a01a8dabd8306e4480f97497938e2b46a0f63973eeed4f06fb90ec", func := "loop.example/g01064/laws.FnExactLeastSkill", spec := "fnExactLeastSkill", apart := false, narrowed := true }
def FnExactLeastSkillUptoSaid : Prop := fnExactLeastSkillUptoRow.holds Try.pinned (OpenSpec.upto fnExactLeastSkillSpec)

/-- 'laws.FnExactSkillMissing', WHERE WHAT IT READS IS OF BULK AT MOST 1048576: true; the input reads as it did. -/
def fnExactSkillMissingUptoRow : OpenClaim := { program := "ytaggfcnaedadaaa", sum := "9f830489f3a01a8dabd8306e4480f97497938e2b46a0f63973eeed4f06fb90ec", func := "loop.example/g01064/laws.FnExactSkillMissing", spec := "fnExactSkillMissing", apart := false, narrowed := true }
def FnExactSkillMissingUptoSaid : Prop := fnExactSkillMissingUptoRow.holds Try.pinned (OpenSpec.upto fnExactSkillMissingSpec)

/-- 'laws.FnExactEndOfWork', WHERE WHAT IT READS IS OF BULK AT MOST 1048576: true; the input reads as it did. -/
def fnExactEndOfWorkUptoRow : OpenClaim := { program := "ytaggfcnaedadaaa", sum := "9f830489f3a01a8dabd8306e4480f97497938e2b46a0f63973eeed4f06fb90ec", func := "loop.example/g01064/laws.FnExactEndOfWork", spec := "fnExactEndOfWork", apart := false, narrowed := true }
def FnExactEndOfWorkUptoSaid : Prop := fnExactEndOfWorkUptoRow.holds Try.pinned (OpenSpec.upto fnExactEndOfWorkSpec)

/-- 'laws.FnExactLoadsOf', WHERE WHAT IT READS IS OF BULK AT MOST 1048576: true; the input reads as it did. -/
def fnExactLoadsOfUptoRow : OpenClaim := { program := "ytaggfcnaedadaaa", sum := "9f830489f3a01a8dabd8306e4480f97497938e2b46a0f63973eeed4f06fb90ec", func := "loop.example/g01064/laws.FnExactLoadsOf", spec := "fnExactLoadsOf", apart := false, narrowed := true }
def FnExactLoadsOfUptoSaid : Prop := fnExactLoadsOfUptoRow.holds Try.pinned (OpenSpec.upto fnExactLoadsOfSpec)

/-- 'laws.FnExactIdleHours', WHERE WHAT IT READS IS OF BULK AT MOST 1048576: true; the input reads as it did. -/
def fnExactIdleHoursUptoRow : OpenClaim := { program := "ytaggfcnaedadaaa", sum := "9f830489f3a01a8dabd8306e4480f97497938e2b46a0f63973eeed4f06fb90ec", func := "loop.example/g01064/laws.FnExactIdleHours", spec := "fnExactIdleHours", apart := false, narrowed := true }
def FnExactIdleHoursUptoSaid : Prop := fnExactIdleHoursUptoRow.holds Try.pinned (OpenSpec.upto fnExactIdleHoursSpec)

/-- 'laws.FnExactEarliestEnd', WHERE WHAT IT READS IS OF BULK AT MOST 1048576: true; the input reads as it did. -/
def fnExactEarliestEndUptoRow : OpenClaim := { program := "ytaggfcnaedadaaa", sum := "9f830489f3a01a8dabd8306e4480f97497938e2b46a0f63973eeed4f06fb90ec", func := "loop.example/g01064/laws.FnExactEarliestEnd", spec := "fnExactEarliestEnd", unfollowed := true, recurses := true, apart := false, narrowed := true }
def FnExactEarliestEndUptoSaid : Prop := fnExactEarliestEndUptoRow.holds Try.pinned (OpenSpec.upto fnExactEarliestEndSpec)

/-- 'laws.FnExactLongFirst', WHERE WHAT IT READS IS OF BULK AT MOST 1048576: true; the input reads as it did. -/
def fnExactLongFirstUptoRow : OpenClaim := { program := "ytaggfcnaedadaaa", sum := "9f830489f3a01a8dabd8306e4480f97497938e2b46a0f63973eeed4f06fb90ec", func := "loop.example/g01064/laws.FnExactLongFirst", spec := "fnExactLongFirst", unfollowed := true, recurses := true, apart := false, narrowed := true }
def FnExactLongFirstUptoSaid : Prop := fnExactLongFirstUptoRow.holds Try.pinned (OpenSpec.upto fnExactLongFirstSpec)

/-- 'laws.FnWork', WHERE WHAT IT READS IS OF BULK AT MOST 1048576: true; the input reads as it did. -/
def fnWorkUptoRow : OpenClaim := { program := "ytaggfcnaedadaaa", sum := "9f830489f3a01a8dabd8306e4480f97497938e2b46a0f63973eeed4f06fb90ec", func := "loop.example/g01064/laws.FnWork", spec := "fnWork", unfollowed := true, recurses := true, apart := false, narrowed := true }
def FnWorkUptoSaid : Prop := fnWorkUptoRow.holds Try.pinned (OpenSpec.upto fnWorkSpec)

/-- 'laws.FnSkills', WHERE WHAT IT READS IS OF BULK AT MOST 1048576: true; the input reads as it did. -/
def fnSkillsUptoRow : OpenClaim := { program := "ytaggfcnaedadaaa", sum := "9f830489f3a01a8dabd8306e4480f97497938e2b46a0f63973eeed4f06fb90ec", func := "loop.example/g01064/laws.FnSkills", spec := "fnSkills", unfollowed := true, recurses := true, apart := false, narrowed := true }
def FnSkillsUptoSaid : Prop := fnSkillsUptoRow.holds Try.pinned (OpenSpec.upto fnSkillsSpec)

end Rows
end Go.Proofs.Ytaggfcnaedadaaa
