/-
  The closed facts on this seat's types and functions, each reckoned by the kernel. Printed by a program (facts.py). Conditions: none.
-/
import Derived.Test.YtmbijgnmbapchaaGreatDoorRows
import Derived.Test.YtmbijgnmbapchaaGreatDoorAbsData
import Derived.KernelRfl
namespace Go.Proofs.YtmbijgnmbapchaaGreatDoor
open Go.Abs

theorem Tryz.fol : Tryz.prog.follows .mixedOrders = true := by kernel_rfl
theorem Tryz.inf2 : tinf Tryz.prog 2 = some (1, 8, some (.int .i64 0)) := by kernel_rfl
theorem Tryz.agg2 : aggB Tryz.prog 2 = some false := by kernel_rfl
theorem Tryz.knd2 : ukind Tryz.prog 2 = some .i64 := by kernel_rfl
theorem Tryz.uns2 : (Tryz.prog.underlying 2).isSome = true := by kernel_rfl
theorem Tryz.inf3 : tinf Tryz.prog 3 = some (1, 8, some (.int .i64 0)) := by kernel_rfl
theorem Tryz.agg3 : aggB Tryz.prog 3 = some false := by kernel_rfl
theorem Tryz.knd3 : ukind Tryz.prog 3 = some .i64 := by kernel_rfl
theorem Tryz.uns3 : (Tryz.prog.underlying 3).isSome = true := by kernel_rfl
theorem Tryz.inf4 : tinf Tryz.prog 4 = some (1, 1, some (.bool false)) := by kernel_rfl
theorem Tryz.agg4 : aggB Tryz.prog 4 = some false := by kernel_rfl
theorem Tryz.bol4 : Tryz.prog.underlying 4 = some .bool := by kernel_rfl
theorem Tryz.inf5 : tinf Tryz.prog 5 = some (1, 1, some (.int .u8 0)) := by kernel_rfl
theorem Tryz.agg5 : aggB Tryz.prog 5 = some false := by kernel_rfl
theorem Tryz.knd5 : ukind Tryz.prog 5 = some .u8 := by kernel_rfl
theorem Tryz.uns5 : (Tryz.prog.underlying 5).isSome = true := by kernel_rfl
theorem Tryz.inf6 : tinf Tryz.prog 6 = some (1, 1, some (.int .u8 0)) := by kernel_rfl
theorem Tryz.agg6 : aggB Tryz.prog 6 = some false := by kernel_rfl
theorem Tryz.knd6 : ukind Tryz.prog 6 = some .u8 := by kernel_rfl
theorem Tryz.uns6 : (Tryz.prog.underlying 6).isSome = true := by kernel_rfl
theorem Tryz.inf8 : tinf Tryz.prog 8 = some (4, 24, some (.agg #[(.int .i64 0), (.int .i64 0), (.bool false), (.int .u8 0)])) := by kernel_rfl
theorem Tryz.agg8 : aggB Tryz.prog 8 = some true := by kernel_rfl
theorem Tryz.inf9 : tinf Tryz.prog 9 = some (1, 16, some (.string ⟨#[]⟩)) := by kernel_rfl
theorem Tryz.agg9 : aggB Tryz.prog 9 = some false := by kernel_rfl
theorem Tryz.str9 : Tryz.prog.underlying 9 = some .string := by kernel_rfl
theorem Tryz.inf10 : tinf Tryz.prog 10 = some (1, 16, some (.string ⟨#[]⟩)) := by kernel_rfl
theorem Tryz.agg10 : aggB Tryz.prog 10 = some false := by kernel_rfl
theorem Tryz.str10 : Tryz.prog.underlying 10 = some .string := by kernel_rfl
theorem Tryz.inf11 : tinf Tryz.prog 11 = some (1, 16, some (.string ⟨#[]⟩)) := by kernel_rfl
theorem Tryz.agg11 : aggB Tryz.prog 11 = some false := by kernel_rfl
theorem Tryz.str11 : Tryz.prog.underlying 11 = some .string := by kernel_rfl
theorem Tryz.inf12 : tinf Tryz.prog 12 = some (1, 8, some (.int .u64 0)) := by kernel_rfl
theorem Tryz.agg12 : aggB Tryz.prog 12 = some false := by kernel_rfl
theorem Tryz.knd12 : ukind Tryz.prog 12 = some .u64 := by kernel_rfl
theorem Tryz.uns12 : (Tryz.prog.underlying 12).isSome = true := by kernel_rfl
theorem Tryz.inf14 : tinf Tryz.prog 14 = some (2, 24, some (.agg #[(.string ⟨#[]⟩), (.int .u64 0)])) := by kernel_rfl
theorem Tryz.agg14 : aggB Tryz.prog 14 = some true := by kernel_rfl
theorem Tryz.fld14at0 : fieldOff Tryz.prog 14 0 = some 0 := by kernel_rfl
theorem Tryz.fld14at1 : fieldOff Tryz.prog 14 1 = some 1 := by kernel_rfl
theorem Tryz.plc14 : placesOf Tryz.prog 14 = some [(0, 1), (1, 1)] := by kernel_rfl
theorem Tryz.inf15 : tinf Tryz.prog 15 = some (1, 8, some (.pointer none)) := by kernel_rfl
theorem Tryz.agg15 : aggB Tryz.prog 15 = some false := by kernel_rfl
theorem Tryz.inf16 : tinf Tryz.prog 16 = some (1, 8, some (.pointer none)) := by kernel_rfl
theorem Tryz.agg16 : aggB Tryz.prog 16 = some false := by kernel_rfl
theorem Tryz.inf17 : tinf Tryz.prog 17 = some (1, 8, some (.pointer none)) := by kernel_rfl
theorem Tryz.agg17 : aggB Tryz.prog 17 = some false := by kernel_rfl
theorem Tryz.inf19 : tinf Tryz.prog 19 = some (1, 8, some (.agg #[(.pointer none)])) := by kernel_rfl
theorem Tryz.agg19 : aggB Tryz.prog 19 = some true := by kernel_rfl
theorem Tryz.fld19at0 : fieldOff Tryz.prog 19 0 = some 0 := by kernel_rfl
theorem Tryz.plc19 : placesOf Tryz.prog 19 = some [(0, 1)] := by kernel_rfl
theorem Tryz.inf21 : tinf Tryz.prog 21 = some (1, 4, some (.int .i32 0)) := by kernel_rfl
theorem Tryz.agg21 : aggB Tryz.prog 21 = some false := by kernel_rfl
theorem Tryz.knd21 : ukind Tryz.prog 21 = some .i32 := by kernel_rfl
theorem Tryz.uns21 : (Tryz.prog.underlying 21).isSome = true := by kernel_rfl
theorem Tryz.inf22 : tinf Tryz.prog 22 = some (1, 24, some (.slice none 0 0)) := by kernel_rfl
theorem Tryz.agg22 : aggB Tryz.prog 22 = some false := by kernel_rfl
theorem Tryz.sl22 : slElem Tryz.prog 22 = some 5 := by kernel_rfl
theorem Tryz.inf25 : tinf Tryz.prog 25 = some (1, 24, some (.slice none 0 0)) := by kernel_rfl
theorem Tryz.agg25 : aggB Tryz.prog 25 = some false := by kernel_rfl
theorem Tryz.sl25 : slElem Tryz.prog 25 = some 54 := by kernel_rfl
theorem Tryz.inf27 : tinf Tryz.prog 27 = some (3, 48, some (.agg #[(.int .i64 0), (.slice none 0 0), (.string ⟨#[]⟩)])) := by kernel_rfl
theorem Tryz.agg27 : aggB Tryz.prog 27 = some true := by kernel_rfl
theorem Tryz.fld27at0 : fieldOff Tryz.prog 27 0 = some 0 := by kernel_rfl
theorem Tryz.fld27at1 : fieldOff Tryz.prog 27 1 = some 1 := by kernel_rfl
theorem Tryz.fld27at2 : fieldOff Tryz.prog 27 2 = some 2 := by kernel_rfl
theorem Tryz.plc27 : placesOf Tryz.prog 27 = some [(0, 1), (1, 1), (2, 1)] := by kernel_rfl
theorem Tryz.inf28 : tinf Tryz.prog 28 = some (1, 24, some (.slice none 0 0)) := by kernel_rfl
theorem Tryz.agg28 : aggB Tryz.prog 28 = some false := by kernel_rfl
theorem Tryz.sl28 : slElem Tryz.prog 28 = some 36 := by kernel_rfl
theorem Tryz.inf36 : tinf Tryz.prog 36 = some (2, 16, some (.agg #[(.int .i64 0), (.int .i64 0)])) := by kernel_rfl
theorem Tryz.agg36 : aggB Tryz.prog 36 = some true := by kernel_rfl
theorem Tryz.fld36at0 : fieldOff Tryz.prog 36 0 = some 0 := by kernel_rfl
theorem Tryz.fld36at1 : fieldOff Tryz.prog 36 1 = some 1 := by kernel_rfl
theorem Tryz.plc36 : placesOf Tryz.prog 36 = some [(0, 1), (1, 1)] := by kernel_rfl
theorem Tryz.flt36 : flatKinds Tryz.prog 36 = some [0, 0] := by kernel_rfl
theorem Tryz.inf42 : tinf Tryz.prog 42 = some (1, 8, some (.pointer none)) := by kernel_rfl
theorem Tryz.agg42 : aggB Tryz.prog 42 = some false := by kernel_rfl
theorem Tryz.inf44 : tinf Tryz.prog 44 = some (1, 24, some (.slice none 0 0)) := by kernel_rfl
theorem Tryz.agg44 : aggB Tryz.prog 44 = some false := by kernel_rfl
theorem Tryz.sl44 : slElem Tryz.prog 44 = some 9 := by kernel_rfl
theorem Tryz.inf48 : tinf Tryz.prog 48 = some (1, 8, some (.pointer none)) := by kernel_rfl
theorem Tryz.agg48 : aggB Tryz.prog 48 = some false := by kernel_rfl
theorem Tryz.inf54 : tinf Tryz.prog 54 = some (2, 24, some (.agg #[(.string ⟨#[]⟩), (.int .i64 0)])) := by kernel_rfl
theorem Tryz.agg54 : aggB Tryz.prog 54 = some true := by kernel_rfl
theorem Tryz.fld54at0 : fieldOff Tryz.prog 54 0 = some 0 := by kernel_rfl
theorem Tryz.fld54at1 : fieldOff Tryz.prog 54 1 = some 1 := by kernel_rfl
theorem Tryz.plc54 : placesOf Tryz.prog 54 = some [(0, 1), (1, 1)] := by kernel_rfl
theorem Tryz.flt54 : flatKinds Tryz.prog 54 = some [2, 0] := by kernel_rfl
theorem Tryz.inf58 : tinf Tryz.prog 58 = some (1, 24, some (.slice none 0 0)) := by kernel_rfl
theorem Tryz.agg58 : aggB Tryz.prog 58 = some false := by kernel_rfl
theorem Tryz.sl58 : slElem Tryz.prog 58 = some 2 := by kernel_rfl
theorem Tryz.inf68 : tinf Tryz.prog 68 = some (1, 8, some (.int .u64 0)) := by kernel_rfl
theorem Tryz.agg68 : aggB Tryz.prog 68 = some false := by kernel_rfl
theorem Tryz.knd68 : ukind Tryz.prog 68 = some .u64 := by kernel_rfl
theorem Tryz.uns68 : (Tryz.prog.underlying 68).isSome = true := by kernel_rfl
theorem Tryz.inf70 : tinf Tryz.prog 70 = some (3, 40, some (.agg #[(.slice none 0 0), (.int .i64 0), (.int .u64 0)])) := by kernel_rfl
theorem Tryz.agg70 : aggB Tryz.prog 70 = some true := by kernel_rfl
theorem Tryz.fld70at0 : fieldOff Tryz.prog 70 0 = some 0 := by kernel_rfl
theorem Tryz.fld70at1 : fieldOff Tryz.prog 70 1 = some 1 := by kernel_rfl
theorem Tryz.fld70at2 : fieldOff Tryz.prog 70 2 = some 2 := by kernel_rfl
theorem Tryz.plc70 : placesOf Tryz.prog 70 = some [(0, 1), (1, 1), (2, 1)] := by kernel_rfl
theorem Tryz.inf83 : tinf Tryz.prog 83 = some (1, 8, some (.int .u64 0)) := by kernel_rfl
theorem Tryz.agg83 : aggB Tryz.prog 83 = some false := by kernel_rfl
theorem Tryz.knd83 : ukind Tryz.prog 83 = some .u64 := by kernel_rfl
theorem Tryz.uns83 : (Tryz.prog.underlying 83).isSome = true := by kernel_rfl
theorem Tryz.inf100 : tinf Tryz.prog 100 = some (1, 8, some (.pointer none)) := by kernel_rfl
theorem Tryz.agg100 : aggB Tryz.prog 100 = some false := by kernel_rfl
theorem Tryz.inf105 : tinf Tryz.prog 105 = some (1, 4, some (.int .u32 0)) := by kernel_rfl
theorem Tryz.agg105 : aggB Tryz.prog 105 = some false := by kernel_rfl
theorem Tryz.knd105 : ukind Tryz.prog 105 = some .u32 := by kernel_rfl
theorem Tryz.uns105 : (Tryz.prog.underlying 105).isSome = true := by kernel_rfl
theorem Tryz.inf112 : tinf Tryz.prog 112 = some (2, 2, some (.agg #[(.int .u8 0), (.int .u8 0)])) := by kernel_rfl
theorem Tryz.agg112 : aggB Tryz.prog 112 = some true := by kernel_rfl
theorem Tryz.fld112at0 : fieldOff Tryz.prog 112 0 = some 0 := by kernel_rfl
theorem Tryz.fld112at1 : fieldOff Tryz.prog 112 1 = some 1 := by kernel_rfl
theorem Tryz.plc112 : placesOf Tryz.prog 112 = some [(0, 1), (1, 1)] := by kernel_rfl
theorem Tryz.flt112 : flatKinds Tryz.prog 112 = some [0, 0] := by kernel_rfl
theorem Tryz.inf129 : tinf Tryz.prog 129 = some (1, 1, some (.int .u8 0)) := by kernel_rfl
theorem Tryz.agg129 : aggB Tryz.prog 129 = some false := by kernel_rfl
theorem Tryz.knd129 : ukind Tryz.prog 129 = some .u8 := by kernel_rfl
theorem Tryz.uns129 : (Tryz.prog.underlying 129).isSome = true := by kernel_rfl
theorem Tryz.cal3 : callable Tryz.prog 3 = true := by kernel_rfl
theorem Tryz.cal4 : callable Tryz.prog 4 = true := by kernel_rfl
theorem Tryz.cal5 : callable Tryz.prog 5 = true := by kernel_rfl
theorem Tryz.cal6 : callable Tryz.prog 6 = true := by kernel_rfl
theorem Tryz.cal7 : callable Tryz.prog 7 = true := by kernel_rfl
theorem Tryz.cal8 : callable Tryz.prog 8 = true := by kernel_rfl
theorem Tryz.cal9 : callable Tryz.prog 9 = true := by kernel_rfl
theorem Tryz.cal10 : callable Tryz.prog 10 = true := by kernel_rfl
theorem Tryz.cal11 : callable Tryz.prog 11 = true := by kernel_rfl
theorem Tryz.cal12 : callable Tryz.prog 12 = true := by kernel_rfl
theorem Tryz.cal13 : callable Tryz.prog 13 = true := by kernel_rfl
theorem Tryz.cal14 : callable Tryz.prog 14 = true := by kernel_rfl
theorem Tryz.cal15 : callable Tryz.prog 15 = true := by kernel_rfl
theorem Tryz.cal16 : callable Tryz.prog 16 = true := by kernel_rfl
theorem Tryz.cal17 : callable Tryz.prog 17 = true := by kernel_rfl
theorem Tryz.cal18 : callable Tryz.prog 18 = true := by kernel_rfl
theorem Tryz.cal19 : callable Tryz.prog 19 = true := by kernel_rfl
theorem Tryz.cal20 : callable Tryz.prog 20 = true := by kernel_rfl
theorem Tryz.cal21 : callable Tryz.prog 21 = true := by kernel_rfl
theorem Tryz.cal22 : callable Tryz.prog 22 = true := by kernel_rfl
theorem Tryz.cal23 : callable Tryz.prog 23 = true := by kernel_rfl
theorem Tryz.cal24 : callable Tryz.prog 24 = true := by kernel_rfl
theorem Tryz.cal25 : callable Tryz.prog 25 = true := by kernel_rfl
theorem Tryz.cal26 : callable Tryz.prog 26 = true := by kernel_rfl
theorem Tryz.cal27 : callable Tryz.prog 27 = true := by kernel_rfl
theorem Tryz.cal28 : callable Tryz.prog 28 = true := by kernel_rfl
theorem Tryz.cal29 : callable Tryz.prog 29 = true := by kernel_rfl
theorem Tryz.cal30 : callable Tryz.prog 30 = true := by kernel_rfl
theorem Tryz.cal31 : callable Tryz.prog 31 = true := by kernel_rfl
theorem Tryz.cal32 : callable Tryz.prog 32 = true := by kernel_rfl
theorem Tryz.cal33 : callable Tryz.prog 33 = true := by kernel_rfl
theorem Tryz.cal34 : callable Tryz.prog 34 = true := by kernel_rfl
theorem Tryz.cal35 : callable Tryz.prog 35 = true := by kernel_rfl
theorem Tryz.cal36 : callable Tryz.prog 36 = true := by kernel_rfl
theorem Tryz.cal37 : callable Tryz.prog 37 = true := by kernel_rfl
theorem Tryz.cal38 : callable Tryz.prog 38 = true := by kernel_rfl
theorem Tryz.cal39 : callable Tryz.prog 39 = true := by kernel_rfl
theorem Tryz.cal40 : callable Tryz.prog 40 = true := by kernel_rfl
theorem Tryz.cal41 : callable Tryz.prog 41 = true := by kernel_rfl
theorem Tryz.cal42 : callable Tryz.prog 42 = true := by kernel_rfl
theorem Tryz.cal43 : callable Tryz.prog 43 = true := by kernel_rfl
theorem Tryz.cal44 : callable Tryz.prog 44 = true := by kernel_rfl
theorem Tryz.cal45 : callable Tryz.prog 45 = true := by kernel_rfl
theorem Tryz.cal46 : callable Tryz.prog 46 = true := by kernel_rfl
theorem Tryz.cal47 : callable Tryz.prog 47 = true := by kernel_rfl
theorem Tryz.cal48 : callable Tryz.prog 48 = true := by kernel_rfl
theorem Tryz.cal49 : callable Tryz.prog 49 = true := by kernel_rfl
theorem Tryz.cal50 : callable Tryz.prog 50 = true := by kernel_rfl
theorem Tryz.cal51 : callable Tryz.prog 51 = true := by kernel_rfl
theorem Tryz.cal52 : callable Tryz.prog 52 = true := by kernel_rfl
theorem Tryz.cal53 : callable Tryz.prog 53 = true := by kernel_rfl
theorem Tryz.cal54 : callable Tryz.prog 54 = true := by kernel_rfl
theorem Tryz.cal55 : callable Tryz.prog 55 = true := by kernel_rfl
theorem Tryz.cal56 : callable Tryz.prog 56 = true := by kernel_rfl
theorem Tryz.cal57 : callable Tryz.prog 57 = true := by kernel_rfl
theorem Tryz.cal58 : callable Tryz.prog 58 = true := by kernel_rfl
theorem Tryz.cal59 : callable Tryz.prog 59 = true := by kernel_rfl
theorem Tryz.cal60 : callable Tryz.prog 60 = true := by kernel_rfl
theorem Tryz.cal61 : callable Tryz.prog 61 = true := by kernel_rfl
theorem Tryz.cal62 : callable Tryz.prog 62 = true := by kernel_rfl
theorem Tryz.cal63 : callable Tryz.prog 63 = true := by kernel_rfl
theorem Tryz.cal64 : callable Tryz.prog 64 = true := by kernel_rfl
theorem Tryz.cal65 : callable Tryz.prog 65 = true := by kernel_rfl
theorem Tryz.cal66 : callable Tryz.prog 66 = true := by kernel_rfl
theorem Tryz.cal68 : callable Tryz.prog 68 = true := by kernel_rfl
theorem Tryz.cal69 : callable Tryz.prog 69 = true := by kernel_rfl
theorem Tryz.cal70 : callable Tryz.prog 70 = true := by kernel_rfl
theorem Tryz.cal78 : callable Tryz.prog 78 = true := by kernel_rfl
theorem Tryz.cal79 : callable Tryz.prog 79 = true := by kernel_rfl
theorem Tryz.cal80 : callable Tryz.prog 80 = true := by kernel_rfl
theorem Tryz.cal81 : callable Tryz.prog 81 = true := by kernel_rfl
theorem Tryz.cal82 : callable Tryz.prog 82 = true := by kernel_rfl
theorem Tryz.cal83 : callable Tryz.prog 83 = true := by kernel_rfl
theorem Tryz.cal84 : callable Tryz.prog 84 = true := by kernel_rfl
theorem Tryz.cal85 : callable Tryz.prog 85 = true := by kernel_rfl
theorem Tryz.cal92 : callable Tryz.prog 92 = true := by kernel_rfl
theorem Tryz.cal95 : callable Tryz.prog 95 = true := by kernel_rfl
theorem Tryz.cal96 : callable Tryz.prog 96 = true := by kernel_rfl
theorem Tryz.cal97 : callable Tryz.prog 97 = true := by kernel_rfl
theorem Tryz.cal98 : callable Tryz.prog 98 = true := by kernel_rfl
theorem Tryz.cal101 : callable Tryz.prog 101 = true := by kernel_rfl
theorem Tryz.cal102 : callable Tryz.prog 102 = true := by kernel_rfl
theorem Tryz.cal103 : callable Tryz.prog 103 = true := by kernel_rfl
theorem Tryz.cal104 : callable Tryz.prog 104 = true := by kernel_rfl
theorem Tryz.cal105 : callable Tryz.prog 105 = true := by kernel_rfl
theorem Tryz.cal106 : callable Tryz.prog 106 = true := by kernel_rfl
theorem Tryz.cvs2 : cvStr 2 = false := by kernel_rfl
theorem Tryz.cvs3 : cvStr 3 = false := by kernel_rfl
theorem Tryz.cvs5 : cvStr 5 = false := by kernel_rfl
theorem Tryz.cvs9 : cvStr 9 = true := by kernel_rfl
theorem Tryz.cvs21 : cvStr 21 = false := by kernel_rfl
theorem Tryz.cvs68 : cvStr 68 = false := by kernel_rfl
theorem Tryz.cvs83 : cvStr 83 = false := by kernel_rfl
theorem Tryz.cvs105 : cvStr 105 = false := by kernel_rfl
theorem Tryz.byt22at9 : bytesT Tryz.prog 22 9 = true := by kernel_rfl
attribute [simp] Tryz.inf2 Tryz.agg2 Tryz.knd2 Tryz.uns2 Tryz.inf3 Tryz.agg3 Tryz.knd3 Tryz.uns3 Tryz.inf4 Tryz.agg4 Tryz.bol4 Tryz.inf5 Tryz.agg5 Tryz.knd5 Tryz.uns5 Tryz.inf6 Tryz.agg6 Tryz.knd6 Tryz.uns6 Tryz.inf8 Tryz.agg8 Tryz.inf9 Tryz.agg9 Tryz.str9 Tryz.inf10 Tryz.agg10 Tryz.str10 Tryz.inf11 Tryz.agg11 Tryz.str11 Tryz.inf12 Tryz.agg12 Tryz.knd12 Tryz.uns12 Tryz.inf14 Tryz.agg14 Tryz.fld14at0 Tryz.fld14at1 Tryz.plc14 Tryz.inf15 Tryz.agg15 Tryz.inf16 Tryz.agg16 Tryz.inf17 Tryz.agg17 Tryz.inf19 Tryz.agg19 Tryz.fld19at0 Tryz.plc19 Tryz.inf21 Tryz.agg21 Tryz.knd21 Tryz.uns21 Tryz.inf22 Tryz.agg22 Tryz.sl22 Tryz.inf25 Tryz.agg25 Tryz.sl25 Tryz.inf27 Tryz.agg27 Tryz.fld27at0 Tryz.fld27at1 Tryz.fld27at2 Tryz.plc27 Tryz.inf28 Tryz.agg28 Tryz.sl28 Tryz.inf36 Tryz.agg36 Tryz.fld36at0 Tryz.fld36at1 Tryz.plc36 Tryz.flt36 Tryz.inf42 Tryz.agg42 Tryz.inf44 Tryz.agg44 Tryz.sl44 Tryz.inf48 Tryz.agg48 Tryz.inf54 Tryz.agg54 Tryz.fld54at0 Tryz.fld54at1 Tryz.plc54 Tryz.flt54 Tryz.inf58 Tryz.agg58 Tryz.sl58 Tryz.inf68 Tryz.agg68 Tryz.knd68 Tryz.uns68 Tryz.inf70 Tryz.agg70 Tryz.fld70at0 Tryz.fld70at1 Tryz.fld70at2 Tryz.plc70 Tryz.inf83 Tryz.agg83 Tryz.knd83 Tryz.uns83 Tryz.inf100 Tryz.agg100 Tryz.inf105 Tryz.agg105 Tryz.knd105 Tryz.uns105 Tryz.inf112 Tryz.agg112 Tryz.fld112at0 Tryz.fld112at1 Tryz.plc112 Tryz.flt112 Tryz.inf129 Tryz.agg129 Tryz.knd129 Tryz.uns129 Tryz.cal3 Tryz.cal4 Tryz.cal5 Tryz.cal6 Tryz.cal7 Tryz.cal8 Tryz.cal9 Tryz.cal10 Tryz.cal11 Tryz.cal12 Tryz.cal13 Tryz.cal14 Tryz.cal15 Tryz.cal16 Tryz.cal17 Tryz.cal18 Tryz.cal19 Tryz.cal20 Tryz.cal21 Tryz.cal22 Tryz.cal23 Tryz.cal24 Tryz.cal25 Tryz.cal26 Tryz.cal27 Tryz.cal28 Tryz.cal29 Tryz.cal30 Tryz.cal31 Tryz.cal32 Tryz.cal33 Tryz.cal34 Tryz.cal35 Tryz.cal36 Tryz.cal37 Tryz.cal38 Tryz.cal39 Tryz.cal40 Tryz.cal41 Tryz.cal42 Tryz.cal43 Tryz.cal44 Tryz.cal45 Tryz.cal46 Tryz.cal47 Tryz.cal48 Tryz.cal49 Tryz.cal50 Tryz.cal51 Tryz.cal52 Tryz.cal53 Tryz.cal54 Tryz.cal55 Tryz.cal56 Tryz.cal57 Tryz.cal58 Tryz.cal59 Tryz.cal60 Tryz.cal61 Tryz.cal62 Tryz.cal63 Tryz.cal64 Tryz.cal65 Tryz.cal66 Tryz.cal68 Tryz.cal69 Tryz.cal70 Tryz.cal78 Tryz.cal79 Tryz.cal80 Tryz.cal81 Tryz.cal82 Tryz.cal83 Tryz.cal84 Tryz.cal85 Tryz.cal92 Tryz.cal95 Tryz.cal96 Tryz.cal97 Tryz.cal98 Tryz.cal101 Tryz.cal102 Tryz.cal103 Tryz.cal104 Tryz.cal105 Tryz.cal106 Tryz.cvs2 Tryz.cvs3 Tryz.cvs5 Tryz.cvs9 Tryz.cvs21 Tryz.cvs68 Tryz.cvs83 Tryz.cvs105 Tryz.byt22at9
end Go.Proofs.YtmbijgnmbapchaaGreatDoor
