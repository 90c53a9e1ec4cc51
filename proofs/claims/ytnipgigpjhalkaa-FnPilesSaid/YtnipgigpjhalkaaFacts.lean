/-
  The closed facts on this seat's types and functions, each reckoned by the kernel. Printed by a program (facts.py). Conditions: none.
-/
import Derived.Test.YtnipgigpjhalkaaRows
import Derived.Test.YtnipgigpjhalkaaAbsData
import Derived.KernelRfl
namespace Go.Proofs.Ytnipgigpjhalkaa
open Go.Abs

theorem Try.fol : Try.prog.follows .mixedOrders = true := by kernel_rfl
theorem Try.inf2 : tinf Try.prog 2 = some (1, 8, some (.int .i64 0)) := by kernel_rfl
theorem Try.agg2 : aggB Try.prog 2 = some false := by kernel_rfl
theorem Try.knd2 : ukind Try.prog 2 = some .i64 := by kernel_rfl
theorem Try.uns2 : (Try.prog.underlying 2).isSome = true := by kernel_rfl
theorem Try.inf3 : tinf Try.prog 3 = some (1, 8, some (.int .i64 0)) := by kernel_rfl
theorem Try.agg3 : aggB Try.prog 3 = some false := by kernel_rfl
theorem Try.knd3 : ukind Try.prog 3 = some .i64 := by kernel_rfl
theorem Try.uns3 : (Try.prog.underlying 3).isSome = true := by kernel_rfl
theorem Try.inf4 : tinf Try.prog 4 = some (1, 1, some (.bool false)) := by kernel_rfl
theorem Try.agg4 : aggB Try.prog 4 = some false := by kernel_rfl
theorem Try.bol4 : Try.prog.underlying 4 = some .bool := by kernel_rfl
theorem Try.inf5 : tinf Try.prog 5 = some (1, 1, some (.int .u8 0)) := by kernel_rfl
theorem Try.agg5 : aggB Try.prog 5 = some false := by kernel_rfl
theorem Try.knd5 : ukind Try.prog 5 = some .u8 := by kernel_rfl
theorem Try.uns5 : (Try.prog.underlying 5).isSome = true := by kernel_rfl
theorem Try.inf6 : tinf Try.prog 6 = some (1, 1, some (.int .u8 0)) := by kernel_rfl
theorem Try.agg6 : aggB Try.prog 6 = some false := by kernel_rfl
theorem Try.knd6 : ukind Try.prog 6 = some .u8 := by kernel_rfl
theorem Try.uns6 : (Try.prog.underlying 6).isSome = true := by kernel_rfl
theorem Try.inf8 : tinf Try.prog 8 = some (4, 24, some (.agg #[(.int .i64 0), (.int .i64 0), (.bool false), (.int .u8 0)])) := by kernel_rfl
theorem Try.agg8 : aggB Try.prog 8 = some true := by kernel_rfl
theorem Try.inf9 : tinf Try.prog 9 = some (1, 16, some (.string ⟨#[]⟩)) := by kernel_rfl
theorem Try.agg9 : aggB Try.prog 9 = some false := by kernel_rfl
theorem Try.str9 : Try.prog.underlying 9 = some .string := by kernel_rfl
theorem Try.inf10 : tinf Try.prog 10 = some (1, 16, some (.string ⟨#[]⟩)) := by kernel_rfl
theorem Try.agg10 : aggB Try.prog 10 = some false := by kernel_rfl
theorem Try.str10 : Try.prog.underlying 10 = some .string := by kernel_rfl
theorem Try.inf11 : tinf Try.prog 11 = some (1, 16, some (.string ⟨#[]⟩)) := by kernel_rfl
theorem Try.agg11 : aggB Try.prog 11 = some false := by kernel_rfl
theorem Try.str11 : Try.prog.underlying 11 = some .string := by kernel_rfl
theorem Try.inf12 : tinf Try.prog 12 = some (1, 8, some (.int .u64 0)) := by kernel_rfl
theorem Try.agg12 : aggB Try.prog 12 = some false := by kernel_rfl
theorem Try.knd12 : ukind Try.prog 12 = some .u64 := by kernel_rfl
theorem Try.uns12 : (Try.prog.underlying 12).isSome = true := by kernel_rfl
theorem Try.inf14 : tinf Try.prog 14 = some (2, 24, some (.agg #[(.string ⟨#[]⟩), (.int .u64 0)])) := by kernel_rfl
theorem Try.agg14 : aggB Try.prog 14 = some true := by kernel_rfl
theorem Try.fld14at0 : fieldOff Try.prog 14 0 = some 0 := by kernel_rfl
theorem Try.fld14at1 : fieldOff Try.prog 14 1 = some 1 := by kernel_rfl
theorem Try.plc14 : placesOf Try.prog 14 = some [(0, 1), (1, 1)] := by kernel_rfl
theorem Try.inf15 : tinf Try.prog 15 = some (1, 8, some (.pointer none)) := by kernel_rfl
theorem Try.agg15 : aggB Try.prog 15 = some false := by kernel_rfl
theorem Try.inf16 : tinf Try.prog 16 = some (1, 8, some (.pointer none)) := by kernel_rfl
theorem Try.agg16 : aggB Try.prog 16 = some false := by kernel_rfl
theorem Try.inf17 : tinf Try.prog 17 = some (1, 8, some (.pointer none)) := by kernel_rfl
theorem Try.agg17 : aggB Try.prog 17 = some false := by kernel_rfl
theorem Try.inf19 : tinf Try.prog 19 = some (1, 8, some (.agg #[(.pointer none)])) := by kernel_rfl
theorem Try.agg19 : aggB Try.prog 19 = some true := by kernel_rfl
theorem Try.fld19at0 : fieldOff Try.prog 19 0 = some 0 := by kernel_rfl
theorem Try.plc19 : placesOf Try.prog 19 = some [(0, 1)] := by kernel_rfl
theorem Try.inf23 : tinf Try.prog 23 = some (3, 24, some (.agg #[(.int .i64 0), (.int .i64 0), (.int .i64 0)])) := by kernel_rfl
theorem Try.agg23 : aggB Try.prog 23 = some true := by kernel_rfl
theorem Try.fld23at0 : fieldOff Try.prog 23 0 = some 0 := by kernel_rfl
theorem Try.fld23at1 : fieldOff Try.prog 23 1 = some 1 := by kernel_rfl
theorem Try.fld23at2 : fieldOff Try.prog 23 2 = some 2 := by kernel_rfl
theorem Try.plc23 : placesOf Try.prog 23 = some [(0, 1), (1, 1), (2, 1)] := by kernel_rfl
theorem Try.flt23 : flatKinds Try.prog 23 = some [0, 0, 0] := by kernel_rfl
theorem Try.inf26 : tinf Try.prog 26 = some (3, 24, some (.agg #[(.int .i64 0), (.int .i64 0), (.int .i64 0)])) := by kernel_rfl
theorem Try.agg26 : aggB Try.prog 26 = some true := by kernel_rfl
theorem Try.fld26at0 : fieldOff Try.prog 26 0 = some 0 := by kernel_rfl
theorem Try.fld26at1 : fieldOff Try.prog 26 1 = some 1 := by kernel_rfl
theorem Try.fld26at2 : fieldOff Try.prog 26 2 = some 2 := by kernel_rfl
theorem Try.plc26 : placesOf Try.prog 26 = some [(0, 1), (1, 1), (2, 1)] := by kernel_rfl
theorem Try.flt26 : flatKinds Try.prog 26 = some [0, 0, 0] := by kernel_rfl
theorem Try.inf31 : tinf Try.prog 31 = some (1, 24, some (.slice none 0 0)) := by kernel_rfl
theorem Try.agg31 : aggB Try.prog 31 = some false := by kernel_rfl
theorem Try.sl31 : slElem Try.prog 31 = some 23 := by kernel_rfl
theorem Try.inf34 : tinf Try.prog 34 = some (1, 24, some (.slice none 0 0)) := by kernel_rfl
theorem Try.agg34 : aggB Try.prog 34 = some false := by kernel_rfl
theorem Try.sl34 : slElem Try.prog 34 = some 26 := by kernel_rfl
theorem Try.inf38 : tinf Try.prog 38 = some (1, 24, some (.slice none 0 0)) := by kernel_rfl
theorem Try.agg38 : aggB Try.prog 38 = some false := by kernel_rfl
theorem Try.sl38 : slElem Try.prog 38 = some 2 := by kernel_rfl
theorem Try.inf48 : tinf Try.prog 48 = some (1, 24, some (.slice none 0 0)) := by kernel_rfl
theorem Try.agg48 : aggB Try.prog 48 = some false := by kernel_rfl
theorem Try.sl48 : slElem Try.prog 48 = some 38 := by kernel_rfl
theorem Try.inf56 : tinf Try.prog 56 = some (1, 24, some (.slice none 0 0)) := by kernel_rfl
theorem Try.agg56 : aggB Try.prog 56 = some false := by kernel_rfl
theorem Try.sl56 : slElem Try.prog 56 = some 5 := by kernel_rfl
theorem Try.inf66 : tinf Try.prog 66 = some (1, 8, some (.pointer none)) := by kernel_rfl
theorem Try.agg66 : aggB Try.prog 66 = some false := by kernel_rfl
theorem Try.inf71 : tinf Try.prog 71 = some (1, 24, some (.slice none 0 0)) := by kernel_rfl
theorem Try.agg71 : aggB Try.prog 71 = some false := by kernel_rfl
theorem Try.sl71 : slElem Try.prog 71 = some 3 := by kernel_rfl
theorem Try.inf78 : tinf Try.prog 78 = some (1, 8, some (.pointer none)) := by kernel_rfl
theorem Try.agg78 : aggB Try.prog 78 = some false := by kernel_rfl
theorem Try.inf86 : tinf Try.prog 86 = some (1, 8, some (.pointer none)) := by kernel_rfl
theorem Try.agg86 : aggB Try.prog 86 = some false := by kernel_rfl
theorem Try.inf88 : tinf Try.prog 88 = some (3, 72, some (.agg #[(.slice none 0 0), (.slice none 0 0), (.slice none 0 0)])) := by kernel_rfl
theorem Try.agg88 : aggB Try.prog 88 = some true := by kernel_rfl
theorem Try.fld88at0 : fieldOff Try.prog 88 0 = some 0 := by kernel_rfl
theorem Try.fld88at1 : fieldOff Try.prog 88 1 = some 1 := by kernel_rfl
theorem Try.fld88at2 : fieldOff Try.prog 88 2 = some 2 := by kernel_rfl
theorem Try.plc88 : placesOf Try.prog 88 = some [(0, 1), (1, 1), (2, 1)] := by kernel_rfl
theorem Try.inf90 : tinf Try.prog 90 = some (1, 24, some (.slice none 0 0)) := by kernel_rfl
theorem Try.agg90 : aggB Try.prog 90 = some false := by kernel_rfl
theorem Try.sl90 : slElem Try.prog 90 = some 4 := by kernel_rfl
theorem Try.inf94 : tinf Try.prog 94 = some (1, 8, some (.int .u64 0)) := by kernel_rfl
theorem Try.agg94 : aggB Try.prog 94 = some false := by kernel_rfl
theorem Try.knd94 : ukind Try.prog 94 = some .u64 := by kernel_rfl
theorem Try.uns94 : (Try.prog.underlying 94).isSome = true := by kernel_rfl
theorem Try.inf96 : tinf Try.prog 96 = some (3, 40, some (.agg #[(.slice none 0 0), (.int .i64 0), (.int .u64 0)])) := by kernel_rfl
theorem Try.agg96 : aggB Try.prog 96 = some true := by kernel_rfl
theorem Try.fld96at0 : fieldOff Try.prog 96 0 = some 0 := by kernel_rfl
theorem Try.fld96at1 : fieldOff Try.prog 96 1 = some 1 := by kernel_rfl
theorem Try.fld96at2 : fieldOff Try.prog 96 2 = some 2 := by kernel_rfl
theorem Try.plc96 : placesOf Try.prog 96 = some [(0, 1), (1, 1), (2, 1)] := by kernel_rfl
theorem Try.inf102 : tinf Try.prog 102 = some (1, 8, some (.int .u64 0)) := by kernel_rfl
theorem Try.agg102 : aggB Try.prog 102 = some false := by kernel_rfl
theorem Try.knd102 : ukind Try.prog 102 = some .u64 := by kernel_rfl
theorem Try.uns102 : (Try.prog.underlying 102).isSome = true := by kernel_rfl
theorem Try.inf114 : tinf Try.prog 114 = some (1, 1, some (.int .u8 0)) := by kernel_rfl
theorem Try.agg114 : aggB Try.prog 114 = some false := by kernel_rfl
theorem Try.knd114 : ukind Try.prog 114 = some .u8 := by kernel_rfl
theorem Try.uns114 : (Try.prog.underlying 114).isSome = true := by kernel_rfl
theorem Try.cal3 : callable Try.prog 3 = true := by kernel_rfl
theorem Try.cal4 : callable Try.prog 4 = true := by kernel_rfl
theorem Try.cal5 : callable Try.prog 5 = true := by kernel_rfl
theorem Try.cal6 : callable Try.prog 6 = true := by kernel_rfl
theorem Try.cal7 : callable Try.prog 7 = true := by kernel_rfl
theorem Try.cal8 : callable Try.prog 8 = true := by kernel_rfl
theorem Try.cal9 : callable Try.prog 9 = true := by kernel_rfl
theorem Try.cal10 : callable Try.prog 10 = true := by kernel_rfl
theorem Try.cal11 : callable Try.prog 11 = true := by kernel_rfl
theorem Try.cal12 : callable Try.prog 12 = true := by kernel_rfl
theorem Try.cal13 : callable Try.prog 13 = true := by kernel_rfl
theorem Try.cal14 : callable Try.prog 14 = true := by kernel_rfl
theorem Try.cal15 : callable Try.prog 15 = true := by kernel_rfl
theorem Try.cal16 : callable Try.prog 16 = true := by kernel_rfl
theorem Try.cal17 : callable Try.prog 17 = true := by kernel_rfl
theorem Try.cal18 : callable Try.prog 18 = true := by kernel_rfl
theorem Try.cal19 : callable Try.prog 19 = true := by kernel_rfl
theorem Try.cal20 : callable Try.prog 20 = true := by kernel_rfl
theorem Try.cal21 : callable Try.prog 21 = true := by kernel_rfl
theorem Try.cal22 : callable Try.prog 22 = true := by kernel_rfl
theorem Try.cal23 : callable Try.prog 23 = true := by kernel_rfl
theorem Try.cal24 : callable Try.prog 24 = true := by kernel_rfl
theorem Try.cal25 : callable Try.prog 25 = true := by kernel_rfl
theorem Try.cal26 : callable Try.prog 26 = true := by kernel_rfl
theorem Try.cal27 : callable Try.prog 27 = true := by kernel_rfl
theorem Try.cal28 : callable Try.prog 28 = true := by kernel_rfl
theorem Try.cal29 : callable Try.prog 29 = true := by kernel_rfl
theorem Try.cal30 : callable Try.prog 30 = true := by kernel_rfl
theorem Try.cal31 : callable Try.prog 31 = true := by kernel_rfl
theorem Try.cal32 : callable Try.prog 32 = true := by kernel_rfl
theorem Try.cal33 : callable Try.prog 33 = true := by kernel_rfl
theorem Try.cal34 : callable Try.prog 34 = true := by kernel_rfl
theorem Try.cal35 : callable Try.prog 35 = true := by kernel_rfl
theorem Try.cal36 : callable Try.prog 36 = true := by kernel_rfl
theorem Try.cal37 : callable Try.prog 37 = true := by kernel_rfl
theorem Try.cal38 : callable Try.prog 38 = true := by kernel_rfl
theorem Try.cal39 : callable Try.prog 39 = true := by kernel_rfl
theorem Try.cal40 : callable Try.prog 40 = true := by kernel_rfl
theorem Try.cal41 : callable Try.prog 41 = true := by kernel_rfl
theorem Try.cal42 : callable Try.prog 42 = true := by kernel_rfl
theorem Try.cal43 : callable Try.prog 43 = true := by kernel_rfl
theorem Try.cal44 : callable Try.prog 44 = true := by kernel_rfl
theorem Try.cal45 : callable Try.prog 45 = true := by kernel_rfl
theorem Try.cal46 : callable Try.prog 46 = true := by kernel_rfl
theorem Try.cal47 : callable Try.prog 47 = true := by kernel_rfl
theorem Try.cal48 : callable Try.prog 48 = true := by kernel_rfl
theorem Try.cal49 : callable Try.prog 49 = true := by kernel_rfl
theorem Try.cal50 : callable Try.prog 50 = true := by kernel_rfl
theorem Try.cal51 : callable Try.prog 51 = true := by kernel_rfl
theorem Try.cal52 : callable Try.prog 52 = true := by kernel_rfl
theorem Try.cal53 : callable Try.prog 53 = true := by kernel_rfl
theorem Try.cal54 : callable Try.prog 54 = true := by kernel_rfl
theorem Try.cal55 : callable Try.prog 55 = true := by kernel_rfl
theorem Try.cal56 : callable Try.prog 56 = true := by kernel_rfl
theorem Try.cal57 : callable Try.prog 57 = true := by kernel_rfl
theorem Try.cal58 : callable Try.prog 58 = true := by kernel_rfl
theorem Try.cal59 : callable Try.prog 59 = true := by kernel_rfl
theorem Try.cal60 : callable Try.prog 60 = true := by kernel_rfl
theorem Try.cal61 : callable Try.prog 61 = true := by kernel_rfl
theorem Try.cal62 : callable Try.prog 62 = true := by kernel_rfl
theorem Try.cal63 : callable Try.prog 63 = true := by kernel_rfl
theorem Try.cal64 : callable Try.prog 64 = true := by kernel_rfl
theorem Try.cal65 : callable Try.prog 65 = true := by kernel_rfl
theorem Try.cal66 : callable Try.prog 66 = true := by kernel_rfl
theorem Try.cal67 : callable Try.prog 67 = true := by kernel_rfl
theorem Try.cal68 : callable Try.prog 68 = true := by kernel_rfl
theorem Try.cal69 : callable Try.prog 69 = true := by kernel_rfl
theorem Try.cal70 : callable Try.prog 70 = true := by kernel_rfl
theorem Try.cal71 : callable Try.prog 71 = true := by kernel_rfl
theorem Try.cal72 : callable Try.prog 72 = true := by kernel_rfl
theorem Try.cal73 : callable Try.prog 73 = true := by kernel_rfl
theorem Try.cal74 : callable Try.prog 74 = true := by kernel_rfl
theorem Try.cal75 : callable Try.prog 75 = true := by kernel_rfl
theorem Try.cal76 : callable Try.prog 76 = true := by kernel_rfl
theorem Try.cal77 : callable Try.prog 77 = true := by kernel_rfl
theorem Try.cal78 : callable Try.prog 78 = true := by kernel_rfl
theorem Try.cal79 : callable Try.prog 79 = true := by kernel_rfl
theorem Try.cal80 : callable Try.prog 80 = true := by kernel_rfl
theorem Try.cal81 : callable Try.prog 81 = true := by kernel_rfl
theorem Try.cal82 : callable Try.prog 82 = true := by kernel_rfl
theorem Try.cal83 : callable Try.prog 83 = true := by kernel_rfl
theorem Try.cal84 : callable Try.prog 84 = true := by kernel_rfl
theorem Try.cal85 : callable Try.prog 85 = true := by kernel_rfl
theorem Try.cal86 : callable Try.prog 86 = true := by kernel_rfl
theorem Try.cal87 : callable Try.prog 87 = true := by kernel_rfl
theorem Try.cal88 : callable Try.prog 88 = true := by kernel_rfl
theorem Try.cal89 : callable Try.prog 89 = true := by kernel_rfl
theorem Try.cal90 : callable Try.prog 90 = true := by kernel_rfl
theorem Try.cal91 : callable Try.prog 91 = true := by kernel_rfl
theorem Try.cal92 : callable Try.prog 92 = true := by kernel_rfl
theorem Try.cal93 : callable Try.prog 93 = true := by kernel_rfl
theorem Try.cal94 : callable Try.prog 94 = true := by kernel_rfl
theorem Try.cal95 : callable Try.prog 95 = true := by kernel_rfl
theorem Try.cal96 : callable Try.prog 96 = true := by kernel_rfl
theorem Try.cal97 : callable Try.prog 97 = true := by kernel_rfl
attribute [simp] Try.inf2 Try.agg2 Try.knd2 Try.uns2 Try.inf3 Try.agg3 Try.knd3 Try.uns3 Try.inf4 Try.agg4 Try.bol4 Try.inf5 Try.agg5 Try.knd5 Try.uns5 Try.inf6 Try.agg6 Try.knd6 Try.uns6 Try.inf8 Try.agg8 Try.inf9 Try.agg9 Try.str9 Try.inf10 Try.agg10 Try.str10 Try.inf11 Try.agg11 Try.str11 Try.inf12 Try.agg12 Try.knd12 Try.uns12 Try.inf14 Try.agg14 Try.fld14at0 Try.fld14at1 Try.plc14 Try.inf15 Try.agg15 Try.inf16 Try.agg16 Try.inf17 Try.agg17 Try.inf19 Try.agg19 Try.fld19at0 Try.plc19 Try.inf23 Try.agg23 Try.fld23at0 Try.fld23at1 Try.fld23at2 Try.plc23 Try.flt23 Try.inf26 Try.agg26 Try.fld26at0 Try.fld26at1 Try.fld26at2 Try.plc26 Try.flt26 Try.inf31 Try.agg31 Try.sl31 Try.inf34 Try.agg34 Try.sl34 Try.inf38 Try.agg38 Try.sl38 Try.inf48 Try.agg48 Try.sl48 Try.inf56 Try.agg56 Try.sl56 Try.inf66 Try.agg66 Try.inf71 Try.agg71 Try.sl71 Try.inf78 Try.agg78 Try.inf86 Try.agg86 Try.inf88 Try.agg88 Try.fld88at0 Try.fld88at1 Try.fld88at2 Try.plc88 Try.inf90 Try.agg90 Try.sl90 Try.inf94 Try.agg94 Try.knd94 Try.uns94 Try.inf96 Try.agg96 Try.fld96at0 Try.fld96at1 Try.fld96at2 Try.plc96 Try.inf102 Try.agg102 Try.knd102 Try.uns102 Try.inf114 Try.agg114 Try.knd114 Try.uns114 Try.cal3 Try.cal4 Try.cal5 Try.cal6 Try.cal7 Try.cal8 Try.cal9 Try.cal10 Try.cal11 Try.cal12 Try.cal13 Try.cal14 Try.cal15 Try.cal16 Try.cal17 Try.cal18 Try.cal19 Try.cal20 Try.cal21 Try.cal22 Try.cal23 Try.cal24 Try.cal25 Try.cal26 Try.cal27 Try.cal28 Try.cal29 Try.cal30 Try.cal31 Try.cal32 Try.cal33 Try.cal34 Try.cal35 Try.cal36 Try.cal37 Try.cal38 Try.cal39 Try.cal40 Try.cal41 Try.cal42 Try.cal43 Try.cal44 Try.cal45 Try.cal46 Try.cal47 Try.cal48 Try.cal49 Try.cal50 Try.cal51 Try.cal52 Try.cal53 Try.cal54 Try.cal55 Try.cal56 Try.cal57 Try.cal58 Try.cal59 Try.cal60 Try.cal61 Try.cal62 Try.cal63 Try.cal64 Try.cal65 Try.cal66 Try.cal67 Try.cal68 Try.cal69 Try.cal70 Try.cal71 Try.cal72 Try.cal73 Try.cal74 Try.cal75 Try.cal76 Try.cal77 Try.cal78 Try.cal79 Try.cal80 Try.cal81 Try.cal82 Try.cal83 Try.cal84 Try.cal85 Try.cal86 Try.cal87 Try.cal88 Try.cal89 Try.cal90 Try.cal91 Try.cal92 Try.cal93 Try.cal94 Try.cal95 Try.cal96 Try.cal97
end Go.Proofs.Ytnipgigpjhalkaa
