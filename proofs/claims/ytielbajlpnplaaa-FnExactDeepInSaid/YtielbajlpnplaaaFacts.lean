/-
  The closed facts on this seat's types and functions, each reckoned by the kernel. Printed by a program (facts.py). Conditions: none.
-/
import Derived.Test.YtielbajlpnplaaaRows
import Derived.Test.YtielbajlpnplaaaAbsData
import Derived.KernelRfl
namespace Go.Proofs.Ytielbajlpnplaaa
open Go.Abs

theorem Try.fol : Try.prog.follows .mixedOrders = true := by kernel_rfl
theorem Try.inf2 : tinf Try.prog 2 = some (1, 8, some (.int .i64 0)) := by kernel_rfl
theorem Try.agg2 : aggB Try.prog 2 = some false := by kernel_rfl
theorem Try.knd2 : ukind Try.prog 2 = some .i64 := by kernel_rfl
theorem Try.uns2 : (Try.prog.underlying 2).isSome = true := by kernel_rfl
theorem Try.inf3 : tinf Try.prog 3 = some (1, 8, some (.int .i64 0)) := by kernel_rfl
theorem Try.agg3 : aggB Try.prog 3 = some false := by kernel_rfl
theorem Try.knd3 : ukind Try.prog 3 = some .i64 := by kernel_rfl
theorem Try.uns3 : (Try.prog.underlying 3).isSome = true := by kernel_rfl
theorem Try.inf4 : tinf Try.prog 4 = some (1, 1, some (.bool false)) := by kernel_rfl
theorem Try.agg4 : aggB Try.prog 4 = some false := by kernel_rfl
theorem Try.bol4 : Try.prog.underlying 4 = some .bool := by kernel_rfl
theorem Try.inf6 : tinf Try.prog 6 = some (1, 1, some (.int .u8 0)) := by kernel_rfl
theorem Try.agg6 : aggB Try.prog 6 = some false := by kernel_rfl
theorem Try.knd6 : ukind Try.prog 6 = some .u8 := by kernel_rfl
theorem Try.uns6 : (Try.prog.underlying 6).isSome = true := by kernel_rfl
theorem Try.inf8 : tinf Try.prog 8 = some (4, 24, some (.agg #[(.int .i64 0), (.int .i64 0), (.bool false), (.int .u8 0)])) := by kernel_rfl
theorem Try.agg8 : aggB Try.prog 8 = some true := by kernel_rfl
theorem Try.inf9 : tinf Try.prog 9 = some (1, 16, some (.string ⟨#[]⟩)) := by kernel_rfl
theorem Try.agg9 : aggB Try.prog 9 = some false := by kernel_rfl
theorem Try.str9 : Try.prog.underlying 9 = some .string := by kernel_rfl
theorem Try.inf10 : tinf Try.prog 10 = some (1, 16, some (.string ⟨#[]⟩)) := by kernel_rfl
theorem Try.agg10 : aggB Try.prog 10 = some false := by kernel_rfl
theorem Try.str10 : Try.prog.underlying 10 = some .string := by kernel_rfl
theorem Try.inf11 : tinf Try.prog 11 = some (1, 16, some (.string ⟨#[]⟩)) := by kernel_rfl
theorem Try.agg11 : aggB Try.prog 11 = some false := by kernel_rfl
theorem Try.str11 : Try.prog.underlying 11 = some .string := by kernel_rfl
theorem Try.inf12 : tinf Try.prog 12 = some (1, 8, some (.int .u64 0)) := by kernel_rfl
theorem Try.agg12 : aggB Try.prog 12 = some false := by kernel_rfl
theorem Try.knd12 : ukind Try.prog 12 = some .u64 := by kernel_rfl
theorem Try.uns12 : (Try.prog.underlying 12).isSome = true := by kernel_rfl
theorem Try.inf14 : tinf Try.prog 14 = some (2, 24, some (.agg #[(.string ⟨#[]⟩), (.int .u64 0)])) := by kernel_rfl
theorem Try.agg14 : aggB Try.prog 14 = some true := by kernel_rfl
theorem Try.fld14at0 : fieldOff Try.prog 14 0 = some 0 := by kernel_rfl
theorem Try.fld14at1 : fieldOff Try.prog 14 1 = some 1 := by kernel_rfl
theorem Try.plc14 : placesOf Try.prog 14 = some [(0, 1), (1, 1)] := by kernel_rfl
theorem Try.inf15 : tinf Try.prog 15 = some (1, 8, some (.pointer none)) := by kernel_rfl
theorem Try.agg15 : aggB Try.prog 15 = some false := by kernel_rfl
theorem Try.inf16 : tinf Try.prog 16 = some (1, 8, some (.pointer none)) := by kernel_rfl
theorem Try.agg16 : aggB Try.prog 16 = some false := by kernel_rfl
theorem Try.inf23 : tinf Try.prog 23 = some (3, 24, some (.agg #[(.int .i64 0), (.int .i64 0), (.int .i64 0)])) := by kernel_rfl
theorem Try.agg23 : aggB Try.prog 23 = some true := by kernel_rfl
theorem Try.fld23at0 : fieldOff Try.prog 23 0 = some 0 := by kernel_rfl
theorem Try.fld23at1 : fieldOff Try.prog 23 1 = some 1 := by kernel_rfl
theorem Try.fld23at2 : fieldOff Try.prog 23 2 = some 2 := by kernel_rfl
theorem Try.plc23 : placesOf Try.prog 23 = some [(0, 1), (1, 1), (2, 1)] := by kernel_rfl
theorem Try.flt23 : flatKinds Try.prog 23 = some [0, 0, 0] := by kernel_rfl
theorem Try.inf26 : tinf Try.prog 26 = some (3, 24, some (.agg #[(.int .i64 0), (.int .i64 0), (.int .i64 0)])) := by kernel_rfl
theorem Try.agg26 : aggB Try.prog 26 = some true := by kernel_rfl
theorem Try.fld26at0 : fieldOff Try.prog 26 0 = some 0 := by kernel_rfl
theorem Try.fld26at1 : fieldOff Try.prog 26 1 = some 1 := by kernel_rfl
theorem Try.fld26at2 : fieldOff Try.prog 26 2 = some 2 := by kernel_rfl
theorem Try.plc26 : placesOf Try.prog 26 = some [(0, 1), (1, 1), (2, 1)] := by kernel_rfl
theorem Try.flt26 : flatKinds Try.prog 26 = some [0, 0, 0] := by kernel_rfl
theorem Try.inf32 : tinf Try.prog 32 = some (3, 24, some (.agg #[(.int .i64 0), (.int .i64 0), (.int .i64 0)])) := by kernel_rfl
theorem Try.agg32 : aggB Try.prog 32 = some true := by kernel_rfl
theorem Try.fld32at0 : fieldOff Try.prog 32 0 = some 0 := by kernel_rfl
theorem Try.fld32at1 : fieldOff Try.prog 32 1 = some 1 := by kernel_rfl
theorem Try.fld32at2 : fieldOff Try.prog 32 2 = some 2 := by kernel_rfl
theorem Try.plc32 : placesOf Try.prog 32 = some [(0, 1), (1, 1), (2, 1)] := by kernel_rfl
theorem Try.flt32 : flatKinds Try.prog 32 = some [0, 0, 0] := by kernel_rfl
theorem Try.inf34 : tinf Try.prog 34 = some (3, 24, some (.agg #[(.int .i64 0), (.int .i64 0), (.int .i64 0)])) := by kernel_rfl
theorem Try.agg34 : aggB Try.prog 34 = some true := by kernel_rfl
theorem Try.fld34at0 : fieldOff Try.prog 34 0 = some 0 := by kernel_rfl
theorem Try.fld34at1 : fieldOff Try.prog 34 1 = some 1 := by kernel_rfl
theorem Try.fld34at2 : fieldOff Try.prog 34 2 = some 2 := by kernel_rfl
theorem Try.plc34 : placesOf Try.prog 34 = some [(0, 1), (1, 1), (2, 1)] := by kernel_rfl
theorem Try.flt34 : flatKinds Try.prog 34 = some [0, 0, 0] := by kernel_rfl
theorem Try.inf39 : tinf Try.prog 39 = some (1, 24, some (.slice none 0 0)) := by kernel_rfl
theorem Try.agg39 : aggB Try.prog 39 = some false := by kernel_rfl
theorem Try.sl39 : slElem Try.prog 39 = some 65 := by kernel_rfl
theorem Try.inf42 : tinf Try.prog 42 = some (1, 24, some (.slice none 0 0)) := by kernel_rfl
theorem Try.agg42 : aggB Try.prog 42 = some false := by kernel_rfl
theorem Try.sl42 : slElem Try.prog 42 = some 63 := by kernel_rfl
theorem Try.inf48 : tinf Try.prog 48 = some (1, 8, some (.pointer none)) := by kernel_rfl
theorem Try.agg48 : aggB Try.prog 48 = some false := by kernel_rfl
theorem Try.inf53 : tinf Try.prog 53 = some (1, 8, some (.pointer none)) := by kernel_rfl
theorem Try.agg53 : aggB Try.prog 53 = some false := by kernel_rfl
theorem Try.inf58 : tinf Try.prog 58 = some (1, 24, some (.slice none 0 0)) := by kernel_rfl
theorem Try.agg58 : aggB Try.prog 58 = some false := by kernel_rfl
theorem Try.sl58 : slElem Try.prog 58 = some 2 := by kernel_rfl
theorem Try.inf63 : tinf Try.prog 63 = some (2, 16, some (.agg #[(.int .i64 0), (.int .i64 0)])) := by kernel_rfl
theorem Try.agg63 : aggB Try.prog 63 = some true := by kernel_rfl
theorem Try.fld63at0 : fieldOff Try.prog 63 0 = some 0 := by kernel_rfl
theorem Try.fld63at1 : fieldOff Try.prog 63 1 = some 1 := by kernel_rfl
theorem Try.plc63 : placesOf Try.prog 63 = some [(0, 1), (1, 1)] := by kernel_rfl
theorem Try.flt63 : flatKinds Try.prog 63 = some [0, 0] := by kernel_rfl
theorem Try.inf65 : tinf Try.prog 65 = some (2, 16, some (.agg #[(.int .i64 0), (.int .i64 0)])) := by kernel_rfl
theorem Try.agg65 : aggB Try.prog 65 = some true := by kernel_rfl
theorem Try.fld65at0 : fieldOff Try.prog 65 0 = some 0 := by kernel_rfl
theorem Try.fld65at1 : fieldOff Try.prog 65 1 = some 1 := by kernel_rfl
theorem Try.plc65 : placesOf Try.prog 65 = some [(0, 1), (1, 1)] := by kernel_rfl
theorem Try.flt65 : flatKinds Try.prog 65 = some [0, 0] := by kernel_rfl
theorem Try.cal3 : callable Try.prog 3 = true := by kernel_rfl
theorem Try.cal4 : callable Try.prog 4 = true := by kernel_rfl
theorem Try.cal5 : callable Try.prog 5 = true := by kernel_rfl
theorem Try.cal6 : callable Try.prog 6 = true := by kernel_rfl
theorem Try.cal7 : callable Try.prog 7 = true := by kernel_rfl
theorem Try.cal8 : callable Try.prog 8 = true := by kernel_rfl
theorem Try.cal9 : callable Try.prog 9 = true := by kernel_rfl
theorem Try.cal10 : callable Try.prog 10 = true := by kernel_rfl
theorem Try.cal11 : callable Try.prog 11 = true := by kernel_rfl
theorem Try.cal12 : callable Try.prog 12 = true := by kernel_rfl
theorem Try.cal13 : callable Try.prog 13 = true := by kernel_rfl
theorem Try.cal14 : callable Try.prog 14 = true := by kernel_rfl
theorem Try.cal15 : callable Try.prog 15 = true := by kernel_rfl
theorem Try.cal16 : callable Try.prog 16 = true := by kernel_rfl
theorem Try.cal17 : callable Try.prog 17 = true := by kernel_rfl
theorem Try.cal18 : callable Try.prog 18 = true := by kernel_rfl
theorem Try.cal19 : callable Try.prog 19 = true := by kernel_rfl
theorem Try.cal20 : callable Try.prog 20 = true := by kernel_rfl
theorem Try.cal21 : callable Try.prog 21 = true := by kernel_rfl
theorem Try.cal22 : callable Try.prog 22 = true := by kernel_rfl
theorem Try.cal23 : callable Try.prog 23 = true := by kernel_rfl
theorem Try.cal24 : callable Try.prog 24 = true := by kernel_rfl
theorem Try.cal25 : callable Try.prog 25 = true := by kernel_rfl
theorem Try.cal26 : callable Try.prog 26 = true := by kernel_rfl
theorem Try.cal27 : callable Try.prog 27 = true := by kernel_rfl
theorem Try.cal28 : callable Try.prog 28 = true := by kernel_rfl
theorem Try.cal29 : callable Try.prog 29 = true := by kernel_rfl
theorem Try.cal30 : callable Try.prog 30 = true := by kernel_rfl
theorem Try.cal31 : callable Try.prog 31 = true := by kernel_rfl
theorem Try.cal32 : callable Try.prog 32 = true := by kernel_rfl
theorem Try.cal33 : callable Try.prog 33 = true := by kernel_rfl
theorem Try.cal34 : callable Try.prog 34 = true := by kernel_rfl
theorem Try.cal35 : callable Try.prog 35 = true := by kernel_rfl
theorem Try.cal36 : callable Try.prog 36 = true := by kernel_rfl
theorem Try.cal37 : callable Try.prog 37 = true := by kernel_rfl
theorem Try.cal38 : callable Try.prog 38 = true := by kernel_rfl
theorem Try.cal39 : callable Try.prog 39 = true := by kernel_rfl
theorem Try.cal40 : callable Try.prog 40 = true := by kernel_rfl
theorem Try.cal41 : callable Try.prog 41 = true := by kernel_rfl
theorem Try.cal42 : callable Try.prog 42 = true := by kernel_rfl
theorem Try.cal43 : callable Try.prog 43 = true := by kernel_rfl
theorem Try.cal44 : callable Try.prog 44 = true := by kernel_rfl
theorem Try.cal45 : callable Try.prog 45 = true := by kernel_rfl
theorem Try.cal46 : callable Try.prog 46 = true := by kernel_rfl
theorem Try.cal47 : callable Try.prog 47 = true := by kernel_rfl
theorem Try.cal48 : callable Try.prog 48 = true := by kernel_rfl
attribute [simp] Try.inf2 Try.agg2 Try.knd2 Try.uns2 Try.inf3 Try.agg3 Try.knd3 Try.uns3 Try.inf4 Try.agg4 Try.bol4 Try.inf6 Try.agg6 Try.knd6 Try.uns6 Try.inf8 Try.agg8 Try.inf9 Try.agg9 Try.str9 Try.inf10 Try.agg10 Try.str10 Try.inf11 Try.agg11 Try.str11 Try.inf12 Try.agg12 Try.knd12 Try.uns12 Try.inf14 Try.agg14 Try.fld14at0 Try.fld14at1 Try.plc14 Try.inf15 Try.agg15 Try.inf16 Try.agg16 Try.inf23 Try.agg23 Try.fld23at0 Try.fld23at1 Try.fld23at2 Try.plc23 Try.flt23 Try.inf26 Try.agg26 Try.fld26at0 Try.fld26at1 Try.fld26at2 Try.plc26 Try.flt26 Try.inf32 Try.agg32 Try.fld32at0 Try.fld32at1 Try.fld32at2 Try.plc32 Try.flt32 Try.inf34 Try.agg34 Try.fld34at0 Try.fld34at1 Try.fld34at2 Try.plc34 Try.flt34 Try.inf39 Try.agg39 Try.sl39 Try.inf42 Try.agg42 Try.sl42 Try.inf48 Try.agg48 Try.inf53 Try.agg53 Try.inf58 Try.agg58 Try.sl58 Try.inf63 Try.agg63 Try.fld63at0 Try.fld63at1 Try.plc63 Try.flt63 Try.inf65 Try.agg65 Try.fld65at0 Try.fld65at1 Try.plc65 Try.flt65 Try.cal3 Try.cal4 Try.cal5 Try.cal6 Try.cal7 Try.cal8 Try.cal9 Try.cal10 Try.cal11 Try.cal12 Try.cal13 Try.cal14 Try.cal15 Try.cal16 Try.cal17 Try.cal18 Try.cal19 Try.cal20 Try.cal21 Try.cal22 Try.cal23 Try.cal24 Try.cal25 Try.cal26 Try.cal27 Try.cal28 Try.cal29 Try.cal30 Try.cal31 Try.cal32 Try.cal33 Try.cal34 Try.cal35 Try.cal36 Try.cal37 Try.cal38 Try.cal39 Try.cal40 Try.cal41 Try.cal42 Try.cal43 Try.cal44 Try.cal45 Try.cal46 Try.cal47 Try.cal48
end Go.Proofs.Ytielbajlpnplaaa
