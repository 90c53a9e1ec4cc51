/-
  The closed facts on this seat's types and functions, each reckoned by the kernel. Printed by a program (facts.py). Conditions: none.
-/
import Derived.Test.YthadhfogmfcacaaDoorRows
import Derived.Test.YthadhfogmfcacaaDoorAbsData
import Derived.KernelRfl
namespace Go.Proofs.YthadhfogmfcacaaDoor
open Go.Abs

theorem Tryd.fol : Tryd.prog.follows .mixedOrders = true := by kernel_rfl
theorem Tryd.inf2 : tinf Tryd.prog 2 = some (1, 8, some (.int .i64 0)) := by kernel_rfl
theorem Tryd.agg2 : aggB Tryd.prog 2 = some false := by kernel_rfl
theorem Tryd.knd2 : ukind Tryd.prog 2 = some .i64 := by kernel_rfl
theorem Tryd.uns2 : (Tryd.prog.underlying 2).isSome = true := by kernel_rfl
theorem Tryd.inf3 : tinf Tryd.prog 3 = some (1, 8, some (.int .i64 0)) := by kernel_rfl
theorem Tryd.agg3 : aggB Tryd.prog 3 = some false := by kernel_rfl
theorem Tryd.knd3 : ukind Tryd.prog 3 = some .i64 := by kernel_rfl
theorem Tryd.uns3 : (Tryd.prog.underlying 3).isSome = true := by kernel_rfl
theorem Tryd.inf4 : tinf Tryd.prog 4 = some (1, 1, some (.bool false)) := by kernel_rfl
theorem Tryd.agg4 : aggB Tryd.prog 4 = some false := by kernel_rfl
theorem Tryd.bol4 : Tryd.prog.underlying 4 = some .bool := by kernel_rfl
theorem Tryd.inf5 : tinf Tryd.prog 5 = some (1, 1, some (.int .u8 0)) := by kernel_rfl
theorem Tryd.agg5 : aggB Tryd.prog 5 = some false := by kernel_rfl
theorem Tryd.knd5 : ukind Tryd.prog 5 = some .u8 := by kernel_rfl
theorem Tryd.uns5 : (Tryd.prog.underlying 5).isSome = true := by kernel_rfl
theorem Tryd.inf6 : tinf Tryd.prog 6 = some (1, 1, some (.int .u8 0)) := by kernel_rfl
theorem Tryd.agg6 : aggB Tryd.prog 6 = some false := by kernel_rfl
theorem Tryd.knd6 : ukind Tryd.prog 6 = some .u8 := by kernel_rfl
theorem Tryd.uns6 : (Tryd.prog.underlying 6).isSome = true := by kernel_rfl
theorem Tryd.inf8 : tinf Tryd.prog 8 = some (4, 24, some (.agg #[(.int .i64 0), (.int .i64 0), (.bool false), (.int .u8 0)])) := by kernel_rfl
theorem Tryd.agg8 : aggB Tryd.prog 8 = some true := by kernel_rfl
theorem Tryd.inf9 : tinf Tryd.prog 9 = some (1, 16, some (.string ⟨#[]⟩)) := by kernel_rfl
theorem Tryd.agg9 : aggB Tryd.prog 9 = some false := by kernel_rfl
theorem Tryd.str9 : Tryd.prog.underlying 9 = some .string := by kernel_rfl
theorem Tryd.inf10 : tinf Tryd.prog 10 = some (1, 16, some (.string ⟨#[]⟩)) := by kernel_rfl
theorem Tryd.agg10 : aggB Tryd.prog 10 = some false := by kernel_rfl
theorem Tryd.str10 : Tryd.prog.underlying 10 = some .string := by kernel_rfl
theorem Tryd.inf11 : tinf Tryd.prog 11 = some (1, 16, some (.string ⟨#[]⟩)) := by kernel_rfl
theorem Tryd.agg11 : aggB Tryd.prog 11 = some false := by kernel_rfl
theorem Tryd.str11 : Tryd.prog.underlying 11 = some .string := by kernel_rfl
theorem Tryd.inf12 : tinf Tryd.prog 12 = some (1, 8, some (.int .u64 0)) := by kernel_rfl
theorem Tryd.agg12 : aggB Tryd.prog 12 = some false := by kernel_rfl
theorem Tryd.knd12 : ukind Tryd.prog 12 = some .u64 := by kernel_rfl
theorem Tryd.uns12 : (Tryd.prog.underlying 12).isSome = true := by kernel_rfl
theorem Tryd.inf14 : tinf Tryd.prog 14 = some (2, 24, some (.agg #[(.string ⟨#[]⟩), (.int .u64 0)])) := by kernel_rfl
theorem Tryd.agg14 : aggB Tryd.prog 14 = some true := by kernel_rfl
theorem Tryd.fld14at0 : fieldOff Tryd.prog 14 0 = some 0 := by kernel_rfl
theorem Tryd.fld14at1 : fieldOff Tryd.prog 14 1 = some 1 := by kernel_rfl
theorem Tryd.plc14 : placesOf Tryd.prog 14 = some [(0, 1), (1, 1)] := by kernel_rfl
theorem Tryd.inf15 : tinf Tryd.prog 15 = some (1, 8, some (.pointer none)) := by kernel_rfl
theorem Tryd.agg15 : aggB Tryd.prog 15 = some false := by kernel_rfl
theorem Tryd.inf16 : tinf Tryd.prog 16 = some (1, 8, some (.pointer none)) := by kernel_rfl
theorem Tryd.agg16 : aggB Tryd.prog 16 = some false := by kernel_rfl
theorem Tryd.inf17 : tinf Tryd.prog 17 = some (1, 8, some (.pointer none)) := by kernel_rfl
theorem Tryd.agg17 : aggB Tryd.prog 17 = some false := by kernel_rfl
theorem Tryd.inf19 : tinf Tryd.prog 19 = some (1, 8, some (.agg #[(.pointer none)])) := by kernel_rfl
theorem Tryd.agg19 : aggB Tryd.prog 19 = some true := by kernel_rfl
theorem Tryd.fld19at0 : fieldOff Tryd.prog 19 0 = some 0 := by kernel_rfl
theorem Tryd.plc19 : placesOf Tryd.prog 19 = some [(0, 1)] := by kernel_rfl
theorem Tryd.inf23 : tinf Tryd.prog 23 = some (3, 24, some (.agg #[(.int .i64 0), (.int .i64 0), (.int .i64 0)])) := by kernel_rfl
theorem Tryd.agg23 : aggB Tryd.prog 23 = some true := by kernel_rfl
theorem Tryd.fld23at0 : fieldOff Tryd.prog 23 0 = some 0 := by kernel_rfl
theorem Tryd.fld23at1 : fieldOff Tryd.prog 23 1 = some 1 := by kernel_rfl
theorem Tryd.fld23at2 : fieldOff Tryd.prog 23 2 = some 2 := by kernel_rfl
theorem Tryd.plc23 : placesOf Tryd.prog 23 = some [(0, 1), (1, 1), (2, 1)] := by kernel_rfl
theorem Tryd.flt23 : flatKinds Tryd.prog 23 = some [0, 0, 0] := by kernel_rfl
theorem Tryd.inf25 : tinf Tryd.prog 25 = some (3, 24, some (.agg #[(.int .i64 0), (.int .i64 0), (.int .i64 0)])) := by kernel_rfl
theorem Tryd.agg25 : aggB Tryd.prog 25 = some true := by kernel_rfl
theorem Tryd.fld25at0 : fieldOff Tryd.prog 25 0 = some 0 := by kernel_rfl
theorem Tryd.fld25at1 : fieldOff Tryd.prog 25 1 = some 1 := by kernel_rfl
theorem Tryd.fld25at2 : fieldOff Tryd.prog 25 2 = some 2 := by kernel_rfl
theorem Tryd.plc25 : placesOf Tryd.prog 25 = some [(0, 1), (1, 1), (2, 1)] := by kernel_rfl
theorem Tryd.flt25 : flatKinds Tryd.prog 25 = some [0, 0, 0] := by kernel_rfl
theorem Tryd.inf28 : tinf Tryd.prog 28 = some (1, 24, some (.slice none 0 0)) := by kernel_rfl
theorem Tryd.agg28 : aggB Tryd.prog 28 = some false := by kernel_rfl
theorem Tryd.sl28 : slElem Tryd.prog 28 = some 5 := by kernel_rfl
theorem Tryd.inf30 : tinf Tryd.prog 30 = some (1, 24, some (.slice none 0 0)) := by kernel_rfl
theorem Tryd.agg30 : aggB Tryd.prog 30 = some false := by kernel_rfl
theorem Tryd.sl30 : slElem Tryd.prog 30 = some 25 := by kernel_rfl
theorem Tryd.inf44 : tinf Tryd.prog 44 = some (1, 8, some (.pointer none)) := by kernel_rfl
theorem Tryd.agg44 : aggB Tryd.prog 44 = some false := by kernel_rfl
theorem Tryd.inf47 : tinf Tryd.prog 47 = some (1, 8, some (.pointer none)) := by kernel_rfl
theorem Tryd.agg47 : aggB Tryd.prog 47 = some false := by kernel_rfl
theorem Tryd.inf53 : tinf Tryd.prog 53 = some (1, 24, some (.slice none 0 0)) := by kernel_rfl
theorem Tryd.agg53 : aggB Tryd.prog 53 = some false := by kernel_rfl
theorem Tryd.sl53 : slElem Tryd.prog 53 = some 2 := by kernel_rfl
theorem Tryd.inf62 : tinf Tryd.prog 62 = some (1, 8, some (.int .u64 0)) := by kernel_rfl
theorem Tryd.agg62 : aggB Tryd.prog 62 = some false := by kernel_rfl
theorem Tryd.knd62 : ukind Tryd.prog 62 = some .u64 := by kernel_rfl
theorem Tryd.uns62 : (Tryd.prog.underlying 62).isSome = true := by kernel_rfl
theorem Tryd.inf64 : tinf Tryd.prog 64 = some (3, 40, some (.agg #[(.slice none 0 0), (.int .i64 0), (.int .u64 0)])) := by kernel_rfl
theorem Tryd.agg64 : aggB Tryd.prog 64 = some true := by kernel_rfl
theorem Tryd.fld64at0 : fieldOff Tryd.prog 64 0 = some 0 := by kernel_rfl
theorem Tryd.fld64at1 : fieldOff Tryd.prog 64 1 = some 1 := by kernel_rfl
theorem Tryd.fld64at2 : fieldOff Tryd.prog 64 2 = some 2 := by kernel_rfl
theorem Tryd.plc64 : placesOf Tryd.prog 64 = some [(0, 1), (1, 1), (2, 1)] := by kernel_rfl
theorem Tryd.inf77 : tinf Tryd.prog 77 = some (1, 8, some (.int .u64 0)) := by kernel_rfl
theorem Tryd.agg77 : aggB Tryd.prog 77 = some false := by kernel_rfl
theorem Tryd.knd77 : ukind Tryd.prog 77 = some .u64 := by kernel_rfl
theorem Tryd.uns77 : (Tryd.prog.underlying 77).isSome = true := by kernel_rfl
theorem Tryd.inf81 : tinf Tryd.prog 81 = some (1, 4, some (.int .u32 0)) := by kernel_rfl
theorem Tryd.agg81 : aggB Tryd.prog 81 = some false := by kernel_rfl
theorem Tryd.knd81 : ukind Tryd.prog 81 = some .u32 := by kernel_rfl
theorem Tryd.uns81 : (Tryd.prog.underlying 81).isSome = true := by kernel_rfl
theorem Tryd.inf96 : tinf Tryd.prog 96 = some (1, 1, some (.int .u8 0)) := by kernel_rfl
theorem Tryd.agg96 : aggB Tryd.prog 96 = some false := by kernel_rfl
theorem Tryd.knd96 : ukind Tryd.prog 96 = some .u8 := by kernel_rfl
theorem Tryd.uns96 : (Tryd.prog.underlying 96).isSome = true := by kernel_rfl
theorem Tryd.cal3 : callable Tryd.prog 3 = true := by kernel_rfl
theorem Tryd.cal4 : callable Tryd.prog 4 = true := by kernel_rfl
theorem Tryd.cal5 : callable Tryd.prog 5 = true := by kernel_rfl
theorem Tryd.cal6 : callable Tryd.prog 6 = true := by kernel_rfl
theorem Tryd.cal7 : callable Tryd.prog 7 = true := by kernel_rfl
theorem Tryd.cal8 : callable Tryd.prog 8 = true := by kernel_rfl
theorem Tryd.cal9 : callable Tryd.prog 9 = true := by kernel_rfl
theorem Tryd.cal10 : callable Tryd.prog 10 = true := by kernel_rfl
theorem Tryd.cal11 : callable Tryd.prog 11 = true := by kernel_rfl
theorem Tryd.cal12 : callable Tryd.prog 12 = true := by kernel_rfl
theorem Tryd.cal13 : callable Tryd.prog 13 = true := by kernel_rfl
theorem Tryd.cal14 : callable Tryd.prog 14 = true := by kernel_rfl
theorem Tryd.cal15 : callable Tryd.prog 15 = true := by kernel_rfl
theorem Tryd.cal16 : callable Tryd.prog 16 = true := by kernel_rfl
theorem Tryd.cal17 : callable Tryd.prog 17 = true := by kernel_rfl
theorem Tryd.cal18 : callable Tryd.prog 18 = true := by kernel_rfl
theorem Tryd.cal19 : callable Tryd.prog 19 = true := by kernel_rfl
theorem Tryd.cal20 : callable Tryd.prog 20 = true := by kernel_rfl
theorem Tryd.cal21 : callable Tryd.prog 21 = true := by kernel_rfl
theorem Tryd.cal22 : callable Tryd.prog 22 = true := by kernel_rfl
theorem Tryd.cal23 : callable Tryd.prog 23 = true := by kernel_rfl
theorem Tryd.cal24 : callable Tryd.prog 24 = true := by kernel_rfl
theorem Tryd.cal25 : callable Tryd.prog 25 = true := by kernel_rfl
theorem Tryd.cal26 : callable Tryd.prog 26 = true := by kernel_rfl
theorem Tryd.cal27 : callable Tryd.prog 27 = true := by kernel_rfl
theorem Tryd.cal28 : callable Tryd.prog 28 = true := by kernel_rfl
theorem Tryd.cal29 : callable Tryd.prog 29 = true := by kernel_rfl
theorem Tryd.cal30 : callable Tryd.prog 30 = true := by kernel_rfl
theorem Tryd.cal31 : callable Tryd.prog 31 = true := by kernel_rfl
theorem Tryd.cal32 : callable Tryd.prog 32 = true := by kernel_rfl
theorem Tryd.cal33 : callable Tryd.prog 33 = true := by kernel_rfl
theorem Tryd.cal34 : callable Tryd.prog 34 = true := by kernel_rfl
theorem Tryd.cal35 : callable Tryd.prog 35 = true := by kernel_rfl
theorem Tryd.cal36 : callable Tryd.prog 36 = true := by kernel_rfl
theorem Tryd.cal37 : callable Tryd.prog 37 = true := by kernel_rfl
theorem Tryd.cal38 : callable Tryd.prog 38 = true := by kernel_rfl
theorem Tryd.cal39 : callable Tryd.prog 39 = true := by kernel_rfl
theorem Tryd.cal40 : callable Tryd.prog 40 = true := by kernel_rfl
theorem Tryd.cal41 : callable Tryd.prog 41 = true := by kernel_rfl
theorem Tryd.cal42 : callable Tryd.prog 42 = true := by kernel_rfl
theorem Tryd.cal43 : callable Tryd.prog 43 = true := by kernel_rfl
theorem Tryd.cal44 : callable Tryd.prog 44 = true := by kernel_rfl
theorem Tryd.cal45 : callable Tryd.prog 45 = true := by kernel_rfl
theorem Tryd.cal47 : callable Tryd.prog 47 = true := by kernel_rfl
theorem Tryd.cal53 : callable Tryd.prog 53 = true := by kernel_rfl
theorem Tryd.cal56 : callable Tryd.prog 56 = true := by kernel_rfl
theorem Tryd.cal57 : callable Tryd.prog 57 = true := by kernel_rfl
theorem Tryd.cal58 : callable Tryd.prog 58 = true := by kernel_rfl
theorem Tryd.cvs2 : cvStr 2 = false := by kernel_rfl
theorem Tryd.cvs3 : cvStr 3 = false := by kernel_rfl
theorem Tryd.cvs5 : cvStr 5 = false := by kernel_rfl
theorem Tryd.cvs9 : cvStr 9 = true := by kernel_rfl
theorem Tryd.cvs62 : cvStr 62 = false := by kernel_rfl
theorem Tryd.cvs77 : cvStr 77 = false := by kernel_rfl
theorem Tryd.cvs81 : cvStr 81 = false := by kernel_rfl
theorem Tryd.byt28at9 : bytesT Tryd.prog 28 9 = true := by kernel_rfl
attribute [simp] Tryd.inf2 Tryd.agg2 Tryd.knd2 Tryd.uns2 Tryd.inf3 Tryd.agg3 Tryd.knd3 Tryd.uns3 Tryd.inf4 Tryd.agg4 Tryd.bol4 Tryd.inf5 Tryd.agg5 Tryd.knd5 Tryd.uns5 Tryd.inf6 Tryd.agg6 Tryd.knd6 Tryd.uns6 Tryd.inf8 Tryd.agg8 Tryd.inf9 Tryd.agg9 Tryd.str9 Tryd.inf10 Tryd.agg10 Tryd.str10 Tryd.inf11 Tryd.agg11 Tryd.str11 Tryd.inf12 Tryd.agg12 Tryd.knd12 Tryd.uns12 Tryd.inf14 Tryd.agg14 Tryd.fld14at0 Tryd.fld14at1 Tryd.plc14 Tryd.inf15 Tryd.agg15 Tryd.inf16 Tryd.agg16 Tryd.inf17 Tryd.agg17 Tryd.inf19 Tryd.agg19 Tryd.fld19at0 Tryd.plc19 Tryd.inf23 Tryd.agg23 Tryd.fld23at0 Tryd.fld23at1 Tryd.fld23at2 Tryd.plc23 Tryd.flt23 Tryd.inf25 Tryd.agg25 Tryd.fld25at0 Tryd.fld25at1 Tryd.fld25at2 Tryd.plc25 Tryd.flt25 Tryd.inf28 Tryd.agg28 Tryd.sl28 Tryd.inf30 Tryd.agg30 Tryd.sl30 Tryd.inf44 Tryd.agg44 Tryd.inf47 Tryd.agg47 Tryd.inf53 Tryd.agg53 Tryd.sl53 Tryd.inf62 Tryd.agg62 Tryd.knd62 Tryd.uns62 Tryd.inf64 Tryd.agg64 Tryd.fld64at0 Tryd.fld64at1 Tryd.fld64at2 Tryd.plc64 Tryd.inf77 Tryd.agg77 Tryd.knd77 Tryd.uns77 Tryd.inf81 Tryd.agg81 Tryd.knd81 Tryd.uns81 Tryd.inf96 Tryd.agg96 Tryd.knd96 Tryd.uns96 Tryd.cal3 Tryd.cal4 Tryd.cal5 Tryd.cal6 Tryd.cal7 Tryd.cal8 Tryd.cal9 Tryd.cal10 Tryd.cal11 Tryd.cal12 Tryd.cal13 Tryd.cal14 Tryd.cal15 Tryd.cal16 Tryd.cal17 Tryd.cal18 Tryd.cal19 Tryd.cal20 Tryd.cal21 Tryd.cal22 Tryd.cal23 Tryd.cal24 Tryd.cal25 Tryd.cal26 Tryd.cal27 Tryd.cal28 Tryd.cal29 Tryd.cal30 Tryd.cal31 Tryd.cal32 Tryd.cal33 Tryd.cal34 Tryd.cal35 Tryd.cal36 Tryd.cal37 Tryd.cal38 Tryd.cal39 Tryd.cal40 Tryd.cal41 Tryd.cal42 Tryd.cal43 Tryd.cal44 Tryd.cal45 Tryd.cal47 Tryd.cal53 Tryd.cal56 Tryd.cal57 Tryd.cal58 Tryd.cvs2 Tryd.cvs3 Tryd.cvs5 Tryd.cvs9 Tryd.cvs62 Tryd.cvs77 Tryd.cvs81 Tryd.byt28at9
end Go.Proofs.YthadhfogmfcacaaDoor
