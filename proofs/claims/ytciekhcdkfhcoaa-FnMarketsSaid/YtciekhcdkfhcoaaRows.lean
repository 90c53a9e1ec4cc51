/-
  No cell of these rows narrows 'for every input' (looked for: loops, veiled, ifaces, maps, wideKeys, modest, calm, conditions, laid).
  DERIVED. THE GIVEN ROWS OF THIS SEAT. 10 by the template 'for every input the law returns true; each argument reads behind the call as it read before'; 0 by the template 'total and deterministic' (their statements: YtciekhcdkfhcoaaTotals.lean).
  GIVEN WITH THE SEED: the statements are not yours to turn. If you find one false, say at which input.
  Laid BY PROGRAM, IN A SANDBOX (cutbox-rows.mjs): the forced cells as the released guide's own fill.sh prints them over the translation 00ceb0450fc5e958… (all of the seat's roots in one cut). By AI agents, Wed Nov 11 2026. No macro, syntax, notation, axiom, sorry.
-/
import Derived.Test.YtciekhcdkfhcoaaChecked
import GoSem.Claim
import GoSem.ClaimJoined
import GoSem.ClaimMapViews
import Derived.JoinedTies
import Derived.KernelRfl
namespace Go.Proofs.Ytciekhcdkfhcoaa
/- THE CELL 'sum', in the pinned program and in every row, IS THE sha256 OF THE DUMP (.gsa) THAT YtciekhcdkfhcoaaProg.lean LOADS. Nothing in Lean hashes anything: it is a label: what it is worth is what the hold of that sum in a sandbox is worth. -/
noncomputable def Try.pinned : Pinned := { name := "ytciekhcdkfhcoaa", sum := "00ceb0450fc5e958992a0b5bf3f883d88fac64f70b1936680dafda53f89e6207", checked := Try.checked }
namespace Rows
def none {H : Type} : Left H := { results := [], args := [] }

/-- 'laws.FnExactValidMarkets': WHATEVER THE INPUT: true; the input reads as it did. -/
def fnExactValidMarketsSpec : ChangeSpec := { name := "fnExactValidMarkets", fn := fun _ => fun
  | [d1, d2] => { results := [.lit (.bool true)], args := [d1, d2] }
  | _ => none }
def fnExactValidMarketsRow : OpenClaim := { program := "ytciekhcdkfhcoaa", sum := "00ceb0450fc5e958992a0b5bf3f883d88fac64f70b1936680dafda53f89e6207", func := "loop.example/g01064/laws.FnExactValidMarkets", spec := "fnExactValidMarkets", apart := false }
def FnExactValidMarketsSaid : Prop := fnExactValidMarketsRow.holds Try.pinned (OpenSpec.ofChange fnExactValidMarketsSpec)

/-- ITS FALSE NEIGHBOUR: 'it returns false'. Refute it at one input. -/
def fnExactValidMarketsWrong : ChangeSpec := { name := "fnExactValidMarkets", fn := fun _ => fun
  | [d1, d2] => { results := [.lit (.bool false)], args := [d1, d2] }
  | _ => none }
def FnExactValidMarketsWrongFalsely : Prop := fnExactValidMarketsRow.holds Try.pinned (OpenSpec.ofChange fnExactValidMarketsWrong)

/-- 'laws.FnExactIncomeAt': WHATEVER THE INPUT: true; the input reads as it did. -/
def fnExactIncomeAtSpec : ChangeSpec := { name := "fnExactIncomeAt", fn := fun _ => fun
  | [d1, d2, d3] => { results := [.lit (.bool true)], args := [d1, d2, d3] }
  | _ => none }
def fnExactIncomeAtRow : OpenClaim := { program := "ytciekhcdkfhcoaa", sum := "00ceb0450fc5e958992a0b5bf3f883d88fac64f70b1936680dafda53f89e6207", func := "loop.example/g01064/laws.FnExactIncomeAt", spec := "fnExactIncomeAt", apart := false }
def FnExactIncomeAtSaid : Prop := fnExactIncomeAtRow.holds Try.pinned (OpenSpec.ofChange fnExactIncomeAtSpec)

/-- ITS FALSE NEIGHBOUR: 'it returns false'. Refute it at one input. -/
def fnExactIncomeAtWrong : ChangeSpec := { name := "fnExactIncomeAt", fn := fun _ => fun
  | [d1, d2, d3] => { results := [.lit (.bool false)], args := [d1, d2, d3] }
  | _ => none }
def FnExactIncomeAtWrongFalsely : Prop := fnExactIncomeAtRow.holds Try.pinned (OpenSpec.ofChange fnExactIncomeAtWrong)

/-- 'laws.FnExactSaleAt': WHATEVER THE INPUT: true; the input reads as it did. -/
def fnExactSaleAtSpec : ChangeSpec := { name := "fnExactSaleAt", fn := fun _ => fun
  | [d1, d2, d3] => { results := [.lit (.bool true)], args := [d1, d2, d3] }
  | _ => none }
def fnExactSaleAtRow : OpenClaim := { program := "ytciekhcdkfhcoaa", sum := "00ceb0450fc5e958992a0b5bf3f883d88fac64f70b1936680dafda53f89e6207", func := "loop.example/g01064/laws.FnExactSaleAt", spec := "fnExactSaleAt", apart := false }
def FnExactSaleAtSaid : Prop := fnExactSaleAtRow.holds Try.pinned (OpenSpec.ofChange fnExactSaleAtSpec)

/-- ITS FALSE NEIGHBOUR: 'it returns false'. Refute it at one input. -/
def fnExactSaleAtWrong : ChangeSpec := { name := "fnExactSaleAt", fn := fun _ => fun
  | [d1, d2, d3] => { results := [.lit (.bool false)], args := [d1, d2, d3] }
  | _ => none }
def FnExactSaleAtWrongFalsely : Prop := fnExactSaleAtRow.holds Try.pinned (OpenSpec.ofChange fnExactSaleAtWrong)

/-- 'laws.FnExactBestPrices': WHATEVER THE INPUT: true; the input reads as it did. -/
def fnExactBestPricesSpec : ChangeSpec := { name := "fnExactBestPrices", fn := fun _ => fun
  | [d1, d2] => { results := [.lit (.bool true)], args := [d1, d2] }
  | _ => none }
def fnExactBestPricesRow : OpenClaim := { program := "ytciekhcdkfhcoaa", sum := "00ceb0450fc5e958992a0b5bf3f883d88fac64f70b1936680dafda53f89e6207", func := "loop.example/g01064/laws.FnExactBestPrices", spec := "fnExactBestPrices", apart := false }
def FnExactBestPricesSaid : Prop := fnExactBestPricesRow.holds Try.pinned (OpenSpec.ofChange fnExactBestPricesSpec)

/-- ITS FALSE NEIGHBOUR: 'it returns false'. Refute it at one input. -/
def fnExactBestPricesWrong : ChangeSpec := { name := "fnExactBestPrices", fn := fun _ => fun
  | [d1, d2] => { results := [.lit (.bool false)], args := [d1, d2] }
  | _ => none }
def FnExactBestPricesWrongFalsely : Prop := fnExactBestPricesRow.holds Try.pinned (OpenSpec.ofChange fnExactBestPricesWrong)

/-- 'laws.FnExactWorthGoing': WHATEVER THE INPUT: true; the input reads as it did. -/
def fnExactWorthGoingSpec : ChangeSpec := { name := "fnExactWorthGoing", fn := fun _ => fun
  | [d1, d2, d3] => { results := [.lit (.bool true)], args := [d1, d2, d3] }
  | _ => none }
def fnExactWorthGoingRow : OpenClaim := { program := "ytciekhcdkfhcoaa", sum := "00ceb0450fc5e958992a0b5bf3f883d88fac64f70b1936680dafda53f89e6207", func := "loop.example/g01064/laws.FnExactWorthGoing", spec := "fnExactWorthGoing", apart := false }
def FnExactWorthGoingSaid : Prop := fnExactWorthGoingRow.holds Try.pinned (OpenSpec.ofChange fnExactWorthGoingSpec)

/-- ITS FALSE NEIGHBOUR: 'it returns false'. Refute it at one input. -/
def fnExactWorthGoingWrong : ChangeSpec := { name := "fnExactWorthGoing", fn := fun _ => fun
  | [d1, d2, d3] => { results := [.lit (.bool false)], args := [d1, d2, d3] }
  | _ => none }
def FnExactWorthGoingWrongFalsely : Prop := fnExactWorthGoingRow.holds Try.pinned (OpenSpec.ofChange fnExactWorthGoingWrong)

/-- 'laws.FnExactBasketsToMake': WHATEVER THE INPUT: true; the input reads as it did. -/
def fnExactBasketsToMakeSpec : ChangeSpec := { name := "fnExactBasketsToMake", fn := fun _ => fun
  | [d1, d2, d3] => { results := [.lit (.bool true)], args := [d1, d2, d3] }
  | _ => none }
def fnExactBasketsToMakeRow : OpenClaim := { program := "ytciekhcdkfhcoaa", sum := "00ceb0450fc5e958992a0b5bf3f883d88fac64f70b1936680dafda53f89e6207", func := "loop.example/g01064/laws.FnExactBasketsToMake", spec := "fnExactBasketsToMake", apart := false }
def FnExactBasketsToMakeSaid : Prop := fnExactBasketsToMakeRow.holds Try.pinned (OpenSpec.ofChange fnExactBasketsToMakeSpec)

/-- ITS FALSE NEIGHBOUR: 'it returns false'. Refute it at one input. -/
def fnExactBasketsToMakeWrong : ChangeSpec := { name := "fnExactBasketsToMake", fn := fun _ => fun
  | [d1, d2, d3] => { results := [.lit (.bool false)], args := [d1, d2, d3] }
  | _ => none }
def FnExactBasketsToMakeWrongFalsely : Prop := fnExactBasketsToMakeRow.holds Try.pinned (OpenSpec.ofChange fnExactBasketsToMakeWrong)

/-- 'laws.FnExactStockAfter': WHATEVER THE INPUT: true; the input reads as it did. -/
def fnExactStockAfterSpec : ChangeSpec := { name := "fnExactStockAfter", fn := fun _ => fun
  | [d1, d2, d3, d4] => { results := [.lit (.bool true)], args := [d1, d2, d3, d4] }
  | _ => none }
def fnExactStockAfterRow : OpenClaim := { program := "ytciekhcdkfhcoaa", sum := "00ceb0450fc5e958992a0b5bf3f883d88fac64f70b1936680dafda53f89e6207", func := "loop.example/g01064/laws.FnExactStockAfter", spec := "fnExactStockAfter", apart := false }
def FnExactStockAfterSaid : Prop := fnExactStockAfterRow.holds Try.pinned (OpenSpec.ofChange fnExactStockAfterSpec)

/-- ITS FALSE NEIGHBOUR: 'it returns false'. Refute it at one input. -/
def fnExactStockAfterWrong : ChangeSpec := { name := "fnExactStockAfter", fn := fun _ => fun
  | [d1, d2, d3, d4] => { results := [.lit (.bool false)], args := [d1, d2, d3, d4] }
  | _ => none }
def FnExactStockAfterWrongFalsely : Prop := fnExactStockAfterRow.holds Try.pinned (OpenSpec.ofChange fnExactStockAfterWrong)

/-- 'laws.FnExactBestMarkets': WHATEVER THE INPUT: true; the input reads as it did. -/
def fnExactBestMarketsSpec : ChangeSpec := { name := "fnExactBestMarkets", fn := fun _ => fun
  | [d1, d2, d3] => { results := [.lit (.bool true)], args := [d1, d2, d3] }
  | _ => none }
def fnExactBestMarketsRow : OpenClaim := { program := "ytciekhcdkfhcoaa", sum := "00ceb0450fc5e958992a0b5bf3f883d88fac64f70b1936680dafda53f89e6207", func := "loop.example/g01064/laws.FnExactBestMarkets", spec := "fnExactBestMarkets", apart := false }
def FnExactBestMarketsSaid : Prop := fnExactBestMarketsRow.holds Try.pinned (OpenSpec.ofChange fnExactBestMarketsSpec)

/-- ITS FALSE NEIGHBOUR: 'it returns false'. Refute it at one input. -/
def fnExactBestMarketsWrong : ChangeSpec := { name := "fnExactBestMarkets", fn := fun _ => fun
  | [d1, d2, d3] => { results := [.lit (.bool false)], args := [d1, d2, d3] }
  | _ => none }
def FnExactBestMarketsWrongFalsely : Prop := fnExactBestMarketsRow.holds Try.pinned (OpenSpec.ofChange fnExactBestMarketsWrong)

/-- 'laws.FnStocks': WHATEVER THE INPUT: true; the input reads as it did. -/
def fnStocksSpec : ChangeSpec := { name := "fnStocks", fn := fun _ => fun
  | [d] => { results := [.lit (.bool true)], args := [d] }
  | _ => none }
def fnStocksRow : OpenClaim := { program := "ytciekhcdkfhcoaa", sum := "00ceb0450fc5e958992a0b5bf3f883d88fac64f70b1936680dafda53f89e6207", func := "loop.example/g01064/laws.FnStocks", spec := "fnStocks", apart := false }
def FnStocksSaid : Prop := fnStocksRow.holds Try.pinned (OpenSpec.ofChange fnStocksSpec)

/-- ITS FALSE NEIGHBOUR: 'it returns false'. Refute it at one input. -/
def fnStocksWrong : ChangeSpec := { name := "fnStocks", fn := fun _ => fun
  | [d] => { results := [.lit (.bool false)], args := [d] }
  | _ => none }
def FnStocksWrongFalsely : Prop := fnStocksRow.holds Try.pinned (OpenSpec.ofChange fnStocksWrong)

/-- 'laws.FnMarkets': WHATEVER THE INPUT: true; the input reads as it did. -/
def fnMarketsSpec : ChangeSpec := { name := "fnMarkets", fn := fun _ => fun
  | [d] => { results := [.lit (.bool true)], args := [d] }
  | _ => none }
def fnMarketsRow : OpenClaim := { program := "ytciekhcdkfhcoaa", sum := "00ceb0450fc5e958992a0b5bf3f883d88fac64f70b1936680dafda53f89e6207", func := "loop.example/g01064/laws.FnMarkets", spec := "fnMarkets", apart := false }
def FnMarketsSaid : Prop := fnMarketsRow.holds Try.pinned (OpenSpec.ofChange fnMarketsSpec)

/-- ITS FALSE NEIGHBOUR: 'it returns false'. Refute it at one input. -/
def fnMarketsWrong : ChangeSpec := { name := "fnMarkets", fn := fun _ => fun
  | [d] => { results := [.lit (.bool false)], args := [d] }
  | _ => none }
def FnMarketsWrongFalsely : Prop := fnMarketsRow.holds Try.pinned (OpenSpec.ofChange fnMarketsWrong)

/- THE SECOND FORM. 'bulk': how many values and letters a reading holds, each counted each time it is reached (what is shared counts as often as it is met; a slice's spare places count too). A statement '..UptoSaid' is the law's where the arguments, and the package variables that the reading takes, are together of bulk at most 1048576: NARROWER than '..Said'. Prove '..Said' where nothing that the law and all that it calls make is longer than what came in: it says more and counts as full. Else prove '..UptoSaid'. A law counts once. -/
mutual
def uptoBulk {H : Type} : DataW H → Nat
  | .lit (.string bytes) => bytes.length + 1
  | .lit _ => 1
  | .nil => 1
  | .ptr d => uptoBulk d + 1
  | .slice elems spare => uptoBulkAll elems + uptoBulkAll spare + 1
  | .agg parts => uptoBulkAll parts + 1
  | .iface _ d => uptoBulk d + 1
  | .map entries => uptoBulkEntries entries + 1
  | .held _ => 1
def uptoBulkAll {H : Type} : List (DataW H) → Nat
  | [] => 0
  | d :: r => uptoBulk d + uptoBulkAll r
def uptoBulkEntries {H : Type} : List (Lit × DataW H) → Nat
  | [] => 0
  | x :: r => uptoBulkEntry x + uptoBulkEntries r
def uptoBulkEntry {H : Type} : Lit × DataW H → Nat
  | (.string bytes, d) => bytes.length + uptoBulk d + 1
  | (_, d) => uptoBulk d + 1
 end
def uptoSmall : (H : Type) → List (DataW H) → Bool := fun _ ds => decide (uptoBulkAll ds ≤ 1048576)
def OpenSpec.upto (s : _root_.Go.ChangeSpec) : _root_.Go.OpenSpec := { _root_.Go.OpenSpec.ofChange s with cond := some uptoSmall }

/-- 'laws.FnExactValidMarkets', WHERE WHAT IT READS IS OF BULK AT MOST 1048576: true; the input reads as it did. -/
def fnExactValidMarketsUptoRow : OpenClaim := { program := "ytciekhcdkfhcoaa", sum := "00ceb0450fc5e958992a0b5bf3f883d88fac64f70b1936680dafda53f89e6207", func := "loop.example/g01064/laws.FnExactValidMarkets", spec := "fnExactValidMarkets", apart := false, narrowed := true }
def FnExactValidMarketsUptoSaid : Prop := fnExactValidMarketsUptoRow.holds Try.pinned (OpenSpec.upto fnExactValidMarketsSpec)

/-- 'laws.FnExactIncomeAt', WHERE WHAT IT READS IS OF BULK AT MOST 1048576: true; the input reads as it did. -/
def fnExactIncomeAtUptoRow : OpenClaim := { program := "ytciekhcdkfhcoaa", sum := "00ceb0450fc5e958992a0b5bf3f883d88fac64f70b1936680dafda53f89e6207", func := "loop.example/g01064/laws.FnExactIncomeAt", spec := "fnExactIncomeAt", apart := false, narrowed := true }
def FnExactIncomeAtUptoSaid : Prop := fnExactIncomeAtUptoRow.holds Try.pinned (OpenSpec.upto fnExactIncomeAtSpec)

/-- 'laws.FnExactSaleAt', WHERE WHAT IT READS IS OF BULK AT MOST 1048576: true; the input reads as it did. -/
def fnExactSaleAtUptoRow : OpenClaim := { program := "ytciekhcdkfhcoaa", sum := "00ceb0450fc5e958992a0b5bf3f883d88fac64f70b1936680dafda53f89e6207", func := "loop.example/g01064/laws.FnExactSaleAt", spec := "fnExactSaleAt", apart := false, narrowed := true }
def FnExactSaleAtUptoSaid : Prop := fnExactSaleAtUptoRow.holds Try.pinned (OpenSpec.upto fnExactSaleAtSpec)

/-- 'laws.FnExactBestPrices', WHERE WHAT IT READS IS OF BULK AT MOST 1048576: true; the input reads as it did. -/
def fnExactBestPricesUptoRow : OpenClaim := { program := "ytciekhcdkfhcoaa", sum := "00ceb0450fc5e958992a0b5bf3f883d88fac64f70b1936680dafda53f89e6207", func := "loop.example/g01064/laws.FnExactBestPrices", spec := "fnExactBestPrices", apart := false, narrowed := true }
def FnExactBestPricesUptoSaid : Prop := fnExactBestPricesUptoRow.holds Try.pinned (OpenSpec.upto fnExactBestPricesSpec)

/-- 'laws.FnExactWorthGoing', WHERE WHAT IT READS IS OF BULK AT MOST 1048576: true; the input reads as it did. -/
def fnExactWorthGoingUptoRow : OpenClaim := { program := "ytciekhcdkfhcoaa", sum := "00ceb0450fc5e958992a0b5bf3f883d88fac64f70b1936680dafda53f89e6207", func := "loop.example/g01064/laws.FnExactWorthGoing", spec := "fnExactWorthGoing", apart := false, narrowed := true }
def FnExactWorthGoingUptoSaid : Prop := fnExactWorthGoingUptoRow.holds Try.pinned (OpenSpec.upto fnExactWorthGoingSpec)

/-- 'laws.FnExactBasketsToMake', WHERE WHAT IT READS IS OF BULK AT MOST 1048576: true; the input reads as it did. -/
def fnExactBasketsToMakeUptoRow : OpenClaim := { program := "ytciekhcdkfhcoaa", sum := "00ceb0450fc5e958992a0b5bf3f883d88fac64f70b1936680dafda53f89e6207", func := "loop.example/g01064/laws.FnExactBasketsToMake", spec := "fnExactBasketsToMake", apart := false, narrowed := true }
def FnExactBasketsToMakeUptoSaid : Prop := fnExactBasketsToMakeUptoRow.holds Try.pinned (OpenSpec.upto fnExactBasketsToMakeSpec)

/-- 'laws.FnExactStockAfter', WHERE WHAT IT READS IS OF BULK AT MOST 1048576: true; the input reads as it did. -/
def fnExactStockAfterUptoRow : OpenClaim := { program := "ytciekhcdkfhcoaa", sum := "00ceb0450fc5e958992a0b5bf3f883d88fac64f70b1936680dafda53f89e6207", func := "loop.example/g01064/laws.FnExactStockAfter", spec := "fnExactStockAfter", apart := false, narrowed := true }
def FnExactStockAfterUptoSaid : Prop := fnExactStockAfterUptoRow.holds Try.pinned (OpenSpec.upto fnExactStockAfterSpec)

/-- 'laws.FnExactBestMarkets', WHERE WHAT IT READS IS OF BULK AT MOST 1048576: true; the input reads as it did. -/
def fnExactBestMarketsUptoRow : OpenClaim := { program := "ytciekhcdkfhcoaa", sum := "00ceb0450fc5e958992a0b5bf3f883d88fac64f70b1936680dafda53f89e6207", func := "loop.example/g01064/laws.FnExactBestMarkets", spec := "fnExactBestMarkets", apart := false, narrowed := true }
def FnExactBestMarketsUptoSaid : Prop := fnExactBestMarketsUptoRow.holds Try.pinned (OpenSpec.upto fnExactBestMarketsSpec)

/-- 'laws.FnStocks', WHERE WHAT IT READS IS OF BULK AT MOST 1048576: true; the input reads as it did. -/
def fnStocksUptoRow : OpenClaim := { program := "ytciekhcdkfhcoaa", sum := "00ceb0450fc5e958992a0b5bf3f883d88fac64f70b1936680dafda53f89e6207", func := "loop.example/g01064/laws.FnStocks", spec := "fnStocks", apart := false, narrowed := true }
def FnStocksUptoSaid : Prop := fnStocksUptoRow.holds Try.pinned (OpenSpec.upto fnStocksSpec)

/-- 'laws.FnMarkets', WHERE WHAT IT READS IS OF BULK AT MOST 1048576: true; the input reads as it did. -/
def fnMarketsUptoRow : OpenClaim := { program := "ytciekhcdkfhcoaa", sum := "00ceb0450fc5e958992a0b5bf3f883d88fac64f70b1936680dafda53f89e6207", func := "loop.example/g01064/laws.FnMarkets", spec := "fnMarkets", apart := false, narrowed := true }
def FnMarketsUptoSaid : Prop := fnMarketsUptoRow.holds Try.pinned (OpenSpec.upto fnMarketsSpec)

end Rows
end Go.Proofs.Ytciekhcdkfhcoaa
