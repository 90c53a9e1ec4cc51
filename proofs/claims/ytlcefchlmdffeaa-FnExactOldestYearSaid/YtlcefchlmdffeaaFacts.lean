/-
  The closed facts on this seat's types and functions, each reckoned by the kernel. Printed by a program (facts.py). Conditions: none.
-/
import Derived.Test.YtlcefchlmdffeaaRows
import Derived.Test.YtlcefchlmdffeaaAbsData
import Derived.KernelRfl
namespace Go.Proofs.Ytlcefchlmdffeaa
open Go.Abs

theorem Try.fol : Try.prog.follows .mixedOrders = true := by kernel_rfl
theorem Try.inf2 : tinf Try.prog 2 = some (1, 8, some (.int .i64 0)) := by kernel_rfl
theorem Try.agg2 : aggB Try.prog 2 = some false := by kernel_rfl
theorem Try.knd2 : ukind Try.prog 2 = some .i64 := by kernel_rfl
theorem Try.uns2 : (Try.prog.underlying 2).isSome = true := by kernel_rfl
theorem Try.inf3 : tinf Try.prog 3 = some (1, 8, some (.int .i64 0)) := by kernel_rfl
theorem Try.agg3 : aggB Try.prog 3 = some false := by kernel_rfl
theorem Try.knd3 : ukind Try.prog 3 = some .i64 := by kernel_rfl
theorem Try.uns3 : (Try.prog.underlying 3).isSome = true := by kernel_rfl
theorem Try.inf4 : tinf Try.prog 4 = some (1, 1, some (.bool false)) := by kernel_rfl
theorem Try.agg4 : aggB Try.prog 4 = some false := by kernel_rfl
theorem Try.bol4 : Try.prog.underlying 4 = some .bool := by kernel_rfl
theorem Try.inf5 : tinf Try.prog 5 = some (1, 1, some (.int .u8 0)) := by kernel_rfl
theorem Try.agg5 : aggB Try.prog 5 = some false := by kernel_rfl
theorem Try.knd5 : ukind Try.prog 5 = some .u8 := by kernel_rfl
theorem Try.uns5 : (Try.prog.underlying 5).isSome = true := by kernel_rfl
theorem Try.inf6 : tinf Try.prog 6 = some (1, 1, some (.int .u8 0)) := by kernel_rfl
theorem Try.agg6 : aggB Try.prog 6 = some false := by kernel_rfl
theorem Try.knd6 : ukind Try.prog 6 = some .u8 := by kernel_rfl
theorem Try.uns6 : (Try.prog.underlying 6).isSome = true := by kernel_rfl
theorem Try.inf8 : tinf Try.prog 8 = some (4, 24, some (.agg #[(.int .i64 0), (.int .i64 0), (.bool false), (.int .u8 0)])) := by kernel_rfl
theorem Try.agg8 : aggB Try.prog 8 = some true := by kernel_rfl
theorem Try.inf9 : tinf Try.prog 9 = some (1, 16, some (.string ⟨#[]⟩)) := by kernel_rfl
theorem Try.agg9 : aggB Try.prog 9 = some false := by kernel_rfl
theorem Try.str9 : Try.prog.underlying 9 = some .string := by kernel_rfl
theorem Try.inf10 : tinf Try.prog 10 = some (1, 16, some (.string ⟨#[]⟩)) := by kernel_rfl
theorem Try.agg10 : aggB Try.prog 10 = some false := by kernel_rfl
theorem Try.str10 : Try.prog.underlying 10 = some .string := by kernel_rfl
theorem Try.inf11 : tinf Try.prog 11 = some (1, 16, some (.string ⟨#[]⟩)) := by kernel_rfl
theorem Try.agg11 : aggB Try.prog 11 = some false := by kernel_rfl
theorem Try.str11 : Try.prog.underlying 11 = some .string := by kernel_rfl
theorem Try.inf12 : tinf Try.prog 12 = some (1, 8, some (.int .u64 0)) := by kernel_rfl
theorem Try.agg12 : aggB Try.prog 12 = some false := by kernel_rfl
theorem Try.knd12 : ukind Try.prog 12 = some .u64 := by kernel_rfl
theorem Try.uns12 : (Try.prog.underlying 12).isSome = true := by kernel_rfl
theorem Try.inf14 : tinf Try.prog 14 = some (2, 24, some (.agg #[(.string ⟨#[]⟩), (.int .u64 0)])) := by kernel_rfl
theorem Try.agg14 : aggB Try.prog 14 = some true := by kernel_rfl
theorem Try.fld14at0 : fieldOff Try.prog 14 0 = some 0 := by kernel_rfl
theorem Try.fld14at1 : fieldOff Try.prog 14 1 = some 1 := by kernel_rfl
theorem Try.plc14 : placesOf Try.prog 14 = some [(0, 1), (1, 1)] := by kernel_rfl
theorem Try.inf15 : tinf Try.prog 15 = some (1, 8, some (.pointer none)) := by kernel_rfl
theorem Try.agg15 : aggB Try.prog 15 = some false := by kernel_rfl
theorem Try.inf16 : tinf Try.prog 16 = some (1, 8, some (.pointer none)) := by kernel_rfl
theorem Try.agg16 : aggB Try.prog 16 = some false := by kernel_rfl
theorem Try.inf17 : tinf Try.prog 17 = some (1, 8, some (.pointer none)) := by kernel_rfl
theorem Try.agg17 : aggB Try.prog 17 = some false := by kernel_rfl
theorem Try.inf19 : tinf Try.prog 19 = some (1, 8, some (.agg #[(.pointer none)])) := by kernel_rfl
theorem Try.agg19 : aggB Try.prog 19 = some true := by kernel_rfl
theorem Try.fld19at0 : fieldOff Try.prog 19 0 = some 0 := by kernel_rfl
theorem Try.plc19 : placesOf Try.prog 19 = some [(0, 1)] := by kernel_rfl
theorem Try.inf22 : tinf Try.prog 22 = some (1, 24, some (.slice none 0 0)) := by kernel_rfl
theorem Try.agg22 : aggB Try.prog 22 = some false := by kernel_rfl
theorem Try.sl22 : slElem Try.prog 22 = some 35 := by kernel_rfl
theorem Try.inf25 : tinf Try.prog 25 = some (1, 24, some (.slice none 0 0)) := by kernel_rfl
theorem Try.agg25 : aggB Try.prog 25 = some false := by kernel_rfl
theorem Try.sl25 : slElem Try.prog 25 = some 36 := by kernel_rfl
theorem Try.inf35 : tinf Try.prog 35 = some (3, 32, some (.agg #[(.string ⟨#[]⟩), (.int .i64 0), (.int .i64 0)])) := by kernel_rfl
theorem Try.agg35 : aggB Try.prog 35 = some true := by kernel_rfl
theorem Try.fld35at0 : fieldOff Try.prog 35 0 = some 0 := by kernel_rfl
theorem Try.fld35at1 : fieldOff Try.prog 35 1 = some 1 := by kernel_rfl
theorem Try.fld35at2 : fieldOff Try.prog 35 2 = some 2 := by kernel_rfl
theorem Try.plc35 : placesOf Try.prog 35 = some [(0, 1), (1, 1), (2, 1)] := by kernel_rfl
theorem Try.flt35 : flatKinds Try.prog 35 = some [2, 0, 0] := by kernel_rfl
theorem Try.inf36 : tinf Try.prog 36 = some (3, 32, some (.agg #[(.string ⟨#[]⟩), (.int .i64 0), (.int .i64 0)])) := by kernel_rfl
theorem Try.agg36 : aggB Try.prog 36 = some true := by kernel_rfl
theorem Try.fld36at0 : fieldOff Try.prog 36 0 = some 0 := by kernel_rfl
theorem Try.fld36at1 : fieldOff Try.prog 36 1 = some 1 := by kernel_rfl
theorem Try.fld36at2 : fieldOff Try.prog 36 2 = some 2 := by kernel_rfl
theorem Try.plc36 : placesOf Try.prog 36 = some [(0, 1), (1, 1), (2, 1)] := by kernel_rfl
theorem Try.flt36 : flatKinds Try.prog 36 = some [2, 0, 0] := by kernel_rfl
theorem Try.inf46 : tinf Try.prog 46 = some (1, 8, some (.pointer none)) := by kernel_rfl
theorem Try.agg46 : aggB Try.prog 46 = some false := by kernel_rfl
theorem Try.inf61 : tinf Try.prog 61 = some (1, 1, some (.int .u8 0)) := by kernel_rfl
theorem Try.agg61 : aggB Try.prog 61 = some false := by kernel_rfl
theorem Try.knd61 : ukind Try.prog 61 = some .u8 := by kernel_rfl
theorem Try.uns61 : (Try.prog.underlying 61).isSome = true := by kernel_rfl
theorem Try.cal3 : callable Try.prog 3 = true := by kernel_rfl
theorem Try.cal4 : callable Try.prog 4 = true := by kernel_rfl
theorem Try.cal5 : callable Try.prog 5 = true := by kernel_rfl
theorem Try.cal6 : callable Try.prog 6 = true := by kernel_rfl
theorem Try.cal7 : callable Try.prog 7 = true := by kernel_rfl
theorem Try.cal8 : callable Try.prog 8 = true := by kernel_rfl
theorem Try.cal9 : callable Try.prog 9 = true := by kernel_rfl
theorem Try.cal10 : callable Try.prog 10 = true := by kernel_rfl
theorem Try.cal11 : callable Try.prog 11 = true := by kernel_rfl
theorem Try.cal12 : callable Try.prog 12 = true := by kernel_rfl
theorem Try.cal13 : callable Try.prog 13 = true := by kernel_rfl
theorem Try.cal14 : callable Try.prog 14 = true := by kernel_rfl
theorem Try.cal15 : callable Try.prog 15 = true := by kernel_rfl
theorem Try.cal16 : callable Try.prog 16 = true := by kernel_rfl
theorem Try.cal17 : callable Try.prog 17 = true := by kernel_rfl
theorem Try.cal18 : callable Try.prog 18 = true := by kernel_rfl
theorem Try.cal19 : callable Try.prog 19 = true := by kernel_rfl
theorem Try.cal20 : callable Try.prog 20 = true := by kernel_rfl
theorem Try.cal21 : callable Try.prog 21 = true := by kernel_rfl
theorem Try.cal22 : callable Try.prog 22 = true := by kernel_rfl
theorem Try.cal23 : callable Try.prog 23 = true := by kernel_rfl
theorem Try.cal24 : callable Try.prog 24 = true := by kernel_rfl
theorem Try.cal25 : callable Try.prog 25 = true := by kernel_rfl
theorem Try.cal26 : callable Try.prog 26 = true := by kernel_rfl
theorem Try.cal27 : callable Try.prog 27 = true := by kernel_rfl
theorem Try.cal28 : callable Try.prog 28 = true := by kernel_rfl
theorem Try.cal29 : callable Try.prog 29 = true := by kernel_rfl
theorem Try.cal30 : callable Try.prog 30 = true := by kernel_rfl
theorem Try.cal31 : callable Try.prog 31 = true := by kernel_rfl
theorem Try.cal32 : callable Try.prog 32 = true := by kernel_rfl
theorem Try.cal33 : callable Try.prog 33 = true := by kernel_rfl
theorem Try.cal34 : callable Try.prog 34 = true := by kernel_rfl
theorem Try.cal35 : callable Try.prog 35 = true := by kernel_rfl
theorem Try.cal36 : callable Try.prog 36 = true := by kernel_rfl
theorem Try.cal37 : callable Try.prog 37 = true := by kernel_rfl
theorem Try.cal38 : callable Try.prog 38 = true := by kernel_rfl
attribute [simp] Try.inf2 Try.agg2 Try.knd2 Try.uns2 Try.inf3 Try.agg3 Try.knd3 Try.uns3 Try.inf4 Try.agg4 Try.bol4 Try.inf5 Try.agg5 Try.knd5 Try.uns5 Try.inf6 Try.agg6 Try.knd6 Try.uns6 Try.inf8 Try.agg8 Try.inf9 Try.agg9 Try.str9 Try.inf10 Try.agg10 Try.str10 Try.inf11 Try.agg11 Try.str11 Try.inf12 Try.agg12 Try.knd12 Try.uns12 Try.inf14 Try.agg14 Try.fld14at0 Try.fld14at1 Try.plc14 Try.inf15 Try.agg15 Try.inf16 Try.agg16 Try.inf17 Try.agg17 Try.inf19 Try.agg19 Try.fld19at0 Try.plc19 Try.inf22 Try.agg22 Try.sl22 Try.inf25 Try.agg25 Try.sl25 Try.inf35 Try.agg35 Try.fld35at0 Try.fld35at1 Try.fld35at2 Try.plc35 Try.flt35 Try.inf36 Try.agg36 Try.fld36at0 Try.fld36at1 Try.fld36at2 Try.plc36 Try.flt36 Try.inf46 Try.agg46 Try.inf61 Try.agg61 Try.knd61 Try.uns61 Try.cal3 Try.cal4 Try.cal5 Try.cal6 Try.cal7 Try.cal8 Try.cal9 Try.cal10 Try.cal11 Try.cal12 Try.cal13 Try.cal14 Try.cal15 Try.cal16 Try.cal17 Try.cal18 Try.cal19 Try.cal20 Try.cal21 Try.cal22 Try.cal23 Try.cal24 Try.cal25 Try.cal26 Try.cal27 Try.cal28 Try.cal29 Try.cal30 Try.cal31 Try.cal32 Try.cal33 Try.cal34 Try.cal35 Try.cal36 Try.cal37 Try.cal38
end Go.Proofs.Ytlcefchlmdffeaa
