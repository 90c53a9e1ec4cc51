/-
  The closed facts on this seat's types and functions, each reckoned by the kernel. Printed by a program (facts.py). Conditions: none.
-/
import Derived.Test.YtaggfcnaedadaaaRows
import Derived.Test.YtaggfcnaedadaaaAbsData
import Derived.KernelRfl
namespace Go.Proofs.Ytaggfcnaedadaaa
open Go.Abs

theorem Try.fol : Try.prog.follows .mixedOrders = true := by kernel_rfl
theorem Try.inf2 : tinf Try.prog 2 = some (1, 8, some (.int .i64 0)) := by kernel_rfl
theorem Try.agg2 : aggB Try.prog 2 = some false := by kernel_rfl
theorem Try.knd2 : ukind Try.prog 2 = some .i64 := by kernel_rfl
theorem Try.uns2 : (Try.prog.underlying 2).isSome = true := by kernel_rfl
theorem Try.inf3 : tinf Try.prog 3 = some (1, 8, some (.int .i64 0)) := by kernel_rfl
theorem Try.agg3 : aggB Try.prog 3 = some false := by kernel_rfl
theorem Try.knd3 : ukind Try.prog 3 = some .i64 := by kernel_rfl
theorem Try.uns3 : (Try.prog.underlying 3).isSome = true := by kernel_rfl
theorem Try.inf4 : tinf Try.prog 4 = some (1, 1, some (.bool false)) := by kernel_rfl
theorem Try.agg4 : aggB Try.prog 4 = some false := by kernel_rfl
theorem Try.bol4 : Try.prog.underlying 4 = some .bool := by kernel_rfl
theorem Try.inf5 : tinf Try.prog 5 = some (1, 1, some (.int .u8 0)) := by kernel_rfl
theorem Try.agg5 : aggB Try.prog 5 = some false := by kernel_rfl
theorem Try.knd5 : ukind Try.prog 5 = some .u8 := by kernel_rfl
theorem Try.uns5 : (Try.prog.underlying 5).isSome = true := by kernel_rfl
theorem Try.inf6 : tinf Try.prog 6 = some (1, 1, some (.int .u8 0)) := by kernel_rfl
theorem Try.agg6 : aggB Try.prog 6 = some false := by kernel_rfl
theorem Try.knd6 : ukind Try.prog 6 = some .u8 := by kernel_rfl
theorem Try.uns6 : (Try.prog.underlying 6).isSome = true := by kernel_rfl
theorem Try.inf8 : tinf Try.prog 8 = some (4, 24, some (.agg #[(.int .i64 0), (.int .i64 0), (.bool false), (.int .u8 0)])) := by kernel_rfl
theorem Try.agg8 : aggB Try.prog 8 = some true := by kernel_rfl
theorem Try.inf9 : tinf Try.prog 9 = some (1, 16, some (.string ⟨#[]⟩)) := by kernel_rfl
theorem Try.agg9 : aggB Try.prog 9 = some false := by kernel_rfl
theorem Try.str9 : Try.prog.underlying 9 = some .string := by kernel_rfl
theorem Try.inf10 : tinf Try.prog 10 = some (1, 16, some (.string ⟨#[]⟩)) := by kernel_rfl
theorem Try.agg10 : aggB Try.prog 10 = some false := by kernel_rfl
theorem Try.str10 : Try.prog.underlying 10 = some .string := by kernel_rfl
theorem Try.inf11 : tinf Try.prog 11 = some (1, 16, some (.string ⟨#[]⟩)) := by kernel_rfl
theorem Try.agg11 : aggB Try.prog 11 = some false := by kernel_rfl
theorem Try.str11 : Try.prog.underlying 11 = some .string := by kernel_rfl
theorem Try.inf12 : tinf Try.prog 12 = some (1, 8, some (.int .u64 0)) := by kernel_rfl
theorem Try.agg12 : aggB Try.prog 12 = some false := by kernel_rfl
theorem Try.knd12 : ukind Try.prog 12 = some .u64 := by kernel_rfl
theorem Try.uns12 : (Try.prog.underlying 12).isSome = true := by kernel_rfl
theorem Try.inf14 : tinf Try.prog 14 = some (2, 24, some (.agg #[(.string ⟨#[]⟩), (.int .u64 0)])) := by kernel_rfl
theorem Try.agg14 : aggB Try.prog 14 = some true := by kernel_rfl
theorem Try.fld14at0 : fieldOff Try.prog 14 0 = some 0 := by kernel_rfl
theorem Try.fld14at1 : fieldOff Try.prog 14 1 = some 1 := by kernel_rfl
theorem Try.plc14 : placesOf Try.prog 14 = some [(0, 1), (1, 1)] := by kernel_rfl
theorem Try.inf15 : tinf Try.prog 15 = some (1, 8, some (.pointer none)) := by kernel_rfl
theorem Try.agg15 : aggB Try.prog 15 = some false := by kernel_rfl
theorem Try.inf16 : tinf Try.prog 16 = some (1, 8, some (.pointer none)) := by kernel_rfl
theorem Try.agg16 : aggB Try.prog 16 = some false := by kernel_rfl
theorem Try.inf17 : tinf Try.prog 17 = some (1, 8, some (.pointer none)) := by kernel_rfl
theorem Try.agg17 : aggB Try.prog 17 = some false := by kernel_rfl
theorem Try.inf19 : tinf Try.prog 19 = some (1, 8, some (.agg #[(.pointer none)])) := by kernel_rfl
theorem Try.agg19 : aggB Try.prog 19 = some true := by kernel_rfl
theorem Try.fld19at0 : fieldOff Try.prog 19 0 = some 0 := by kernel_rfl
theorem Try.plc19 : placesOf Try.prog 19 = some [(0, 1)] := by kernel_rfl
theorem Try.inf22 : tinf Try.prog 22 = some (1, 24, some (.slice none 0 0)) := by kernel_rfl
theorem Try.agg22 : aggB Try.prog 22 = some false := by kernel_rfl
theorem Try.sl22 : slElem Try.prog 22 = some 54 := by kernel_rfl
theorem Try.inf23 : tinf Try.prog 23 = some (1, 24, some (.slice none 0 0)) := by kernel_rfl
theorem Try.agg23 : aggB Try.prog 23 = some false := by kernel_rfl
theorem Try.sl23 : slElem Try.prog 23 = some 2 := by kernel_rfl
theorem Try.inf26 : tinf Try.prog 26 = some (1, 24, some (.slice none 0 0)) := by kernel_rfl
theorem Try.agg26 : aggB Try.prog 26 = some false := by kernel_rfl
theorem Try.sl26 : slElem Try.prog 26 = some 51 := by kernel_rfl
theorem Try.inf45 : tinf Try.prog 45 = some (1, 24, some (.slice none 0 0)) := by kernel_rfl
theorem Try.agg45 : aggB Try.prog 45 = some false := by kernel_rfl
theorem Try.sl45 : slElem Try.prog 45 = some 5 := by kernel_rfl
theorem Try.inf51 : tinf Try.prog 51 = some (2, 16, some (.agg #[(.int .i64 0), (.int .i64 0)])) := by kernel_rfl
theorem Try.agg51 : aggB Try.prog 51 = some true := by kernel_rfl
theorem Try.fld51at0 : fieldOff Try.prog 51 0 = some 0 := by kernel_rfl
theorem Try.fld51at1 : fieldOff Try.prog 51 1 = some 1 := by kernel_rfl
theorem Try.plc51 : placesOf Try.prog 51 = some [(0, 1), (1, 1)] := by kernel_rfl
theorem Try.flt51 : flatKinds Try.prog 51 = some [0, 0] := by kernel_rfl
theorem Try.inf54 : tinf Try.prog 54 = some (2, 16, some (.agg #[(.int .i64 0), (.int .i64 0)])) := by kernel_rfl
theorem Try.agg54 : aggB Try.prog 54 = some true := by kernel_rfl
theorem Try.fld54at0 : fieldOff Try.prog 54 0 = some 0 := by kernel_rfl
theorem Try.fld54at1 : fieldOff Try.prog 54 1 = some 1 := by kernel_rfl
theorem Try.plc54 : placesOf Try.prog 54 = some [(0, 1), (1, 1)] := by kernel_rfl
theorem Try.flt54 : flatKinds Try.prog 54 = some [0, 0] := by kernel_rfl
theorem Try.inf64 : tinf Try.prog 64 = some (1, 8, some (.pointer none)) := by kernel_rfl
theorem Try.agg64 : aggB Try.prog 64 = some false := by kernel_rfl
theorem Try.inf66 : tinf Try.prog 66 = some (5, 104, some (.agg #[(.slice none 0 0), (.slice none 0 0), (.slice none 0 0), (.slice none 0 0), (.int .i64 0)])) := by kernel_rfl
theorem Try.agg66 : aggB Try.prog 66 = some true := by kernel_rfl
theorem Try.fld66at0 : fieldOff Try.prog 66 0 = some 0 := by kernel_rfl
theorem Try.fld66at1 : fieldOff Try.prog 66 1 = some 1 := by kernel_rfl
theorem Try.fld66at2 : fieldOff Try.prog 66 2 = some 2 := by kernel_rfl
theorem Try.fld66at3 : fieldOff Try.prog 66 3 = some 3 := by kernel_rfl
theorem Try.fld66at4 : fieldOff Try.prog 66 4 = some 4 := by kernel_rfl
theorem Try.plc66 : placesOf Try.prog 66 = some [(0, 1), (1, 1), (2, 1), (3, 1), (4, 1)] := by kernel_rfl
theorem Try.inf71 : tinf Try.prog 71 = some (1, 8, some (.pointer none)) := by kernel_rfl
theorem Try.agg71 : aggB Try.prog 71 = some false := by kernel_rfl
theorem Try.inf77 : tinf Try.prog 77 = some (1, 8, some (.int .u64 0)) := by kernel_rfl
theorem Try.agg77 : aggB Try.prog 77 = some false := by kernel_rfl
theorem Try.knd77 : ukind Try.prog 77 = some .u64 := by kernel_rfl
theorem Try.uns77 : (Try.prog.underlying 77).isSome = true := by kernel_rfl
theorem Try.inf79 : tinf Try.prog 79 = some (3, 40, some (.agg #[(.slice none 0 0), (.int .i64 0), (.int .u64 0)])) := by kernel_rfl
theorem Try.agg79 : aggB Try.prog 79 = some true := by kernel_rfl
theorem Try.fld79at0 : fieldOff Try.prog 79 0 = some 0 := by kernel_rfl
theorem Try.fld79at1 : fieldOff Try.prog 79 1 = some 1 := by kernel_rfl
theorem Try.fld79at2 : fieldOff Try.prog 79 2 = some 2 := by kernel_rfl
theorem Try.plc79 : placesOf Try.prog 79 = some [(0, 1), (1, 1), (2, 1)] := by kernel_rfl
theorem Try.inf84 : tinf Try.prog 84 = some (1, 8, some (.int .u64 0)) := by kernel_rfl
theorem Try.agg84 : aggB Try.prog 84 = some false := by kernel_rfl
theorem Try.knd84 : ukind Try.prog 84 = some .u64 := by kernel_rfl
theorem Try.uns84 : (Try.prog.underlying 84).isSome = true := by kernel_rfl
theorem Try.inf94 : tinf Try.prog 94 = some (1, 1, some (.int .u8 0)) := by kernel_rfl
theorem Try.agg94 : aggB Try.prog 94 = some false := by kernel_rfl
theorem Try.knd94 : ukind Try.prog 94 = some .u8 := by kernel_rfl
theorem Try.uns94 : (Try.prog.underlying 94).isSome = true := by kernel_rfl
theorem Try.cal3 : callable Try.prog 3 = true := by kernel_rfl
theorem Try.cal4 : callable Try.prog 4 = true := by kernel_rfl
theorem Try.cal5 : callable Try.prog 5 = true := by kernel_rfl
theorem Try.cal6 : callable Try.prog 6 = true := by kernel_rfl
theorem Try.cal7 : callable Try.prog 7 = true := by kernel_rfl
theorem Try.cal8 : callable Try.prog 8 = true := by kernel_rfl
theorem Try.cal9 : callable Try.prog 9 = true := by kernel_rfl
theorem Try.cal10 : callable Try.prog 10 = true := by kernel_rfl
theorem Try.cal11 : callable Try.prog 11 = true := by kernel_rfl
theorem Try.cal12 : callable Try.prog 12 = true := by kernel_rfl
theorem Try.cal13 : callable Try.prog 13 = true := by kernel_rfl
theorem Try.cal14 : callable Try.prog 14 = true := by kernel_rfl
theorem Try.cal15 : callable Try.prog 15 = true := by kernel_rfl
theorem Try.cal16 : callable Try.prog 16 = true := by kernel_rfl
theorem Try.cal17 : callable Try.prog 17 = true := by kernel_rfl
theorem Try.cal18 : callable Try.prog 18 = true := by kernel_rfl
theorem Try.cal19 : callable Try.prog 19 = true := by kernel_rfl
theorem Try.cal20 : callable Try.prog 20 = true := by kernel_rfl
theorem Try.cal21 : callable Try.prog 21 = true := by kernel_rfl
theorem Try.cal22 : callable Try.prog 22 = true := by kernel_rfl
theorem Try.cal23 : callable Try.prog 23 = true := by kernel_rfl
theorem Try.cal24 : callable Try.prog 24 = true := by kernel_rfl
theorem Try.cal25 : callable Try.prog 25 = true := by kernel_rfl
theorem Try.cal26 : callable Try.prog 26 = true := by kernel_rfl
theorem Try.cal27 : callable Try.prog 27 = true := by kernel_rfl
theorem Try.cal28 : callable Try.prog 28 = true := by kernel_rfl
theorem Try.cal29 : callable Try.prog 29 = true := by kernel_rfl
theorem Try.cal30 : callable Try.prog 30 = true := by kernel_rfl
theorem Try.cal31 : callable Try.prog 31 = true := by kernel_rfl
theorem Try.cal32 : callable Try.prog 32 = true := by kernel_rfl
theorem Try.cal33 : callable Try.prog 33 = true := by kernel_rfl
theorem Try.cal34 : callable Try.prog 34 = true := by kernel_rfl
theorem Try.cal35 : callable Try.prog 35 = true := by kernel_rfl
theorem Try.cal36 : callable Try.prog 36 = true := by kernel_rfl
theorem Try.cal37 : callable Try.prog 37 = true := by kernel_rfl
theorem Try.cal38 : callable Try.prog 38 = true := by kernel_rfl
theorem Try.cal39 : callable Try.prog 39 = true := by kernel_rfl
theorem Try.cal40 : callable Try.prog 40 = true := by kernel_rfl
theorem Try.cal41 : callable Try.prog 41 = true := by kernel_rfl
theorem Try.cal42 : callable Try.prog 42 = true := by kernel_rfl
theorem Try.cal43 : callable Try.prog 43 = true := by kernel_rfl
theorem Try.cal44 : callable Try.prog 44 = true := by kernel_rfl
theorem Try.cal45 : callable Try.prog 45 = true := by kernel_rfl
theorem Try.cal46 : callable Try.prog 46 = true := by kernel_rfl
theorem Try.cal47 : callable Try.prog 47 = true := by kernel_rfl
theorem Try.cal48 : callable Try.prog 48 = true := by kernel_rfl
theorem Try.cal49 : callable Try.prog 49 = true := by kernel_rfl
theorem Try.cal50 : callable Try.prog 50 = true := by kernel_rfl
theorem Try.cal51 : callable Try.prog 51 = true := by kernel_rfl
theorem Try.cal52 : callable Try.prog 52 = true := by kernel_rfl
theorem Try.cal53 : callable Try.prog 53 = true := by kernel_rfl
theorem Try.cal54 : callable Try.prog 54 = true := by kernel_rfl
theorem Try.cal55 : callable Try.prog 55 = true := by kernel_rfl
theorem Try.cal56 : callable Try.prog 56 = true := by kernel_rfl
theorem Try.cal57 : callable Try.prog 57 = true := by kernel_rfl
theorem Try.cal58 : callable Try.prog 58 = true := by kernel_rfl
theorem Try.cal59 : callable Try.prog 59 = true := by kernel_rfl
theorem Try.cal60 : callable Try.prog 60 = true := by kernel_rfl
theorem Try.cal61 : callable Try.prog 61 = true := by kernel_rfl
theorem Try.cal62 : callable Try.prog 62 = true := by kernel_rfl
theorem Try.cal63 : callable Try.prog 63 = true := by kernel_rfl
theorem Try.cal64 : callable Try.prog 64 = true := by kernel_rfl
theorem Try.cal65 : callable Try.prog 65 = true := by kernel_rfl
theorem Try.cal66 : callable Try.prog 66 = true := by kernel_rfl
theorem Try.cal67 : callable Try.prog 67 = true := by kernel_rfl
theorem Try.cal68 : callable Try.prog 68 = true := by kernel_rfl
theorem Try.cal69 : callable Try.prog 69 = true := by kernel_rfl
theorem Try.cal70 : callable Try.prog 70 = true := by kernel_rfl
theorem Try.cal71 : callable Try.prog 71 = true := by kernel_rfl
theorem Try.cal72 : callable Try.prog 72 = true := by kernel_rfl
theorem Try.cal73 : callable Try.prog 73 = true := by kernel_rfl
theorem Try.cal74 : callable Try.prog 74 = true := by kernel_rfl
theorem Try.cal75 : callable Try.prog 75 = true := by kernel_rfl
theorem Try.cal76 : callable Try.prog 76 = true := by kernel_rfl
theorem Try.cal77 : callable Try.prog 77 = true := by kernel_rfl
theorem Try.cal78 : callable Try.prog 78 = true := by kernel_rfl
theorem Try.cal79 : callable Try.prog 79 = true := by kernel_rfl
attribute [simp] Try.inf2 Try.agg2 Try.knd2 Try.uns2 Try.inf3 Try.agg3 Try.knd3 Try.uns3 Try.inf4 Try.agg4 Try.bol4 Try.inf5 Try.agg5 Try.knd5 Try.uns5 Try.inf6 Try.agg6 Try.knd6 Try.uns6 Try.inf8 Try.agg8 Try.inf9 Try.agg9 Try.str9 Try.inf10 Try.agg10 Try.str10 Try.inf11 Try.agg11 Try.str11 Try.inf12 Try.agg12 Try.knd12 Try.uns12 Try.inf14 Try.agg14 Try.fld14at0 Try.fld14at1 Try.plc14 Try.inf15 Try.agg15 Try.inf16 Try.agg16 Try.inf17 Try.agg17 Try.inf19 Try.agg19 Try.fld19at0 Try.plc19 Try.inf22 Try.agg22 Try.sl22 Try.inf23 Try.agg23 Try.sl23 Try.inf26 Try.agg26 Try.sl26 Try.inf45 Try.agg45 Try.sl45 Try.inf51 Try.agg51 Try.fld51at0 Try.fld51at1 Try.plc51 Try.flt51 Try.inf54 Try.agg54 Try.fld54at0 Try.fld54at1 Try.plc54 Try.flt54 Try.inf64 Try.agg64 Try.inf66 Try.agg66 Try.fld66at0 Try.fld66at1 Try.fld66at2 Try.fld66at3 Try.fld66at4 Try.plc66 Try.inf71 Try.agg71 Try.inf77 Try.agg77 Try.knd77 Try.uns77 Try.inf79 Try.agg79 Try.fld79at0 Try.fld79at1 Try.fld79at2 Try.plc79 Try.inf84 Try.agg84 Try.knd84 Try.uns84 Try.inf94 Try.agg94 Try.knd94 Try.uns94 Try.cal3 Try.cal4 Try.cal5 Try.cal6 Try.cal7 Try.cal8 Try.cal9 Try.cal10 Try.cal11 Try.cal12 Try.cal13 Try.cal14 Try.cal15 Try.cal16 Try.cal17 Try.cal18 Try.cal19 Try.cal20 Try.cal21 Try.cal22 Try.cal23 Try.cal24 Try.cal25 Try.cal26 Try.cal27 Try.cal28 Try.cal29 Try.cal30 Try.cal31 Try.cal32 Try.cal33 Try.cal34 Try.cal35 Try.cal36 Try.cal37 Try.cal38 Try.cal39 Try.cal40 Try.cal41 Try.cal42 Try.cal43 Try.cal44 Try.cal45 Try.cal46 Try.cal47 Try.cal48 Try.cal49 Try.cal50 Try.cal51 Try.cal52 Try.cal53 Try.cal54 Try.cal55 Try.cal56 Try.cal57 Try.cal58 Try.cal59 Try.cal60 Try.cal61 Try.cal62 Try.cal63 Try.cal64 Try.cal65 Try.cal66 Try.cal67 Try.cal68 Try.cal69 Try.cal70 Try.cal71 Try.cal72 Try.cal73 Try.cal74 Try.cal75 Try.cal76 Try.cal77 Try.cal78 Try.cal79
end Go.Proofs.Ytaggfcnaedadaaa
