/-
  The closed facts on this seat's types and functions, each reckoned by the kernel. Printed by a program (facts.py). Conditions: none.
-/
import Derived.Test.YtmbijgnmbapchaaDoorRows
import Derived.Test.YtmbijgnmbapchaaDoorAbsData
import Derived.KernelRfl
namespace Go.Proofs.YtmbijgnmbapchaaDoor
open Go.Abs

theorem Tryd.fol : Tryd.prog.follows .mixedOrders = true := by kernel_rfl
theorem Tryd.inf2 : tinf Tryd.prog 2 = some (1, 8, some (.int .i64 0)) := by kernel_rfl
theorem Tryd.agg2 : aggB Tryd.prog 2 = some false := by kernel_rfl
theorem Tryd.knd2 : ukind Tryd.prog 2 = some .i64 := by kernel_rfl
theorem Tryd.uns2 : (Tryd.prog.underlying 2).isSome = true := by kernel_rfl
theorem Tryd.inf3 : tinf Tryd.prog 3 = some (1, 8, some (.int .i64 0)) := by kernel_rfl
theorem Tryd.agg3 : aggB Tryd.prog 3 = some false := by kernel_rfl
theorem Tryd.knd3 : ukind Tryd.prog 3 = some .i64 := by kernel_rfl
theorem Tryd.uns3 : (Tryd.prog.underlying 3).isSome = true := by kernel_rfl
theorem Tryd.inf4 : tinf Tryd.prog 4 = some (1, 1, some (.bool false)) := by kernel_rfl
theorem Tryd.agg4 : aggB Tryd.prog 4 = some false := by kernel_rfl
theorem Tryd.bol4 : Tryd.prog.underlying 4 = some .bool := by kernel_rfl
theorem Tryd.inf5 : tinf Tryd.prog 5 = some (1, 1, some (.int .u8 0)) := by kernel_rfl
theorem Tryd.agg5 : aggB Tryd.prog 5 = some false := by kernel_rfl
theorem Tryd.knd5 : ukind Tryd.prog 5 = some .u8 := by kernel_rfl
theorem Tryd.uns5 : (Tryd.prog.underlying 5).isSome = true := by kernel_rfl
theorem Tryd.inf6 : tinf Tryd.prog 6 = some (1, 1, some (.int .u8 0)) := by kernel_rfl
theorem Tryd.agg6 : aggB Tryd.prog 6 = some false := by kernel_rfl
theorem Tryd.knd6 : ukind Tryd.prog 6 = some .u8 := by kernel_rfl
theorem Tryd.uns6 : (Tryd.prog.underlying 6).isSome = true := by kernel_rfl
theorem Tryd.inf8 : tinf Tryd.prog 8 = some (4, 24, some (.agg #[(.int .i64 0), (.int .i64 0), (.bool false), (.int .u8 0)])) := by kernel_rfl
theorem Tryd.agg8 : aggB Tryd.prog 8 = some true := by kernel_rfl
theorem Tryd.inf9 : tinf Tryd.prog 9 = some (1, 16, some (.string ⟨#[]⟩)) := by kernel_rfl
theorem Tryd.agg9 : aggB Tryd.prog 9 = some false := by kernel_rfl
theorem Tryd.str9 : Tryd.prog.underlying 9 = some .string := by kernel_rfl
theorem Tryd.inf10 : tinf Tryd.prog 10 = some (1, 16, some (.string ⟨#[]⟩)) := by kernel_rfl
theorem Tryd.agg10 : aggB Tryd.prog 10 = some false := by kernel_rfl
theorem Tryd.str10 : Tryd.prog.underlying 10 = some .string := by kernel_rfl
theorem Tryd.inf11 : tinf Tryd.prog 11 = some (1, 16, some (.string ⟨#[]⟩)) := by kernel_rfl
theorem Tryd.agg11 : aggB Tryd.prog 11 = some false := by kernel_rfl
theorem Tryd.str11 : Tryd.prog.underlying 11 = some .string := by kernel_rfl
theorem Tryd.inf12 : tinf Tryd.prog 12 = some (1, 8, some (.int .u64 0)) := by kernel_rfl
theorem Tryd.agg12 : aggB Tryd.prog 12 = some false := by kernel_rfl
theorem Tryd.knd12 : ukind Tryd.prog 12 = some .u64 := by kernel_rfl
theorem Tryd.uns12 : (Tryd.prog.underlying 12).isSome = true := by kernel_rfl
theorem Tryd.inf14 : tinf Tryd.prog 14 = some (2, 24, some (.agg #[(.string ⟨#[]⟩), (.int .u64 0)])) := by kernel_rfl
theorem Tryd.agg14 : aggB Tryd.prog 14 = some true := by kernel_rfl
theorem Tryd.fld14at0 : fieldOff Tryd.prog 14 0 = some 0 := by kernel_rfl
theorem Tryd.fld14at1 : fieldOff Tryd.prog 14 1 = some 1 := by kernel_rfl
theorem Tryd.plc14 : placesOf Tryd.prog 14 = some [(0, 1), (1, 1)] := by kernel_rfl
theorem Tryd.inf15 : tinf Tryd.prog 15 = some (1, 8, some (.pointer none)) := by kernel_rfl
theorem Tryd.agg15 : aggB Tryd.prog 15 = some false := by kernel_rfl
theorem Tryd.inf16 : tinf Tryd.prog 16 = some (1, 8, some (.pointer none)) := by kernel_rfl
theorem Tryd.agg16 : aggB Tryd.prog 16 = some false := by kernel_rfl
theorem Tryd.inf17 : tinf Tryd.prog 17 = some (1, 8, some (.pointer none)) := by kernel_rfl
theorem Tryd.agg17 : aggB Tryd.prog 17 = some false := by kernel_rfl
theorem Tryd.inf19 : tinf Tryd.prog 19 = some (1, 8, some (.agg #[(.pointer none)])) := by kernel_rfl
theorem Tryd.agg19 : aggB Tryd.prog 19 = some true := by kernel_rfl
theorem Tryd.fld19at0 : fieldOff Tryd.prog 19 0 = some 0 := by kernel_rfl
theorem Tryd.plc19 : placesOf Tryd.prog 19 = some [(0, 1)] := by kernel_rfl
theorem Tryd.inf21 : tinf Tryd.prog 21 = some (1, 4, some (.int .i32 0)) := by kernel_rfl
theorem Tryd.agg21 : aggB Tryd.prog 21 = some false := by kernel_rfl
theorem Tryd.knd21 : ukind Tryd.prog 21 = some .i32 := by kernel_rfl
theorem Tryd.uns21 : (Tryd.prog.underlying 21).isSome = true := by kernel_rfl
theorem Tryd.inf22 : tinf Tryd.prog 22 = some (1, 24, some (.slice none 0 0)) := by kernel_rfl
theorem Tryd.agg22 : aggB Tryd.prog 22 = some false := by kernel_rfl
theorem Tryd.sl22 : slElem Tryd.prog 22 = some 120 := by kernel_rfl
theorem Tryd.inf24 : tinf Tryd.prog 24 = some (3, 48, some (.agg #[(.int .i64 0), (.slice none 0 0), (.string ⟨#[]⟩)])) := by kernel_rfl
theorem Tryd.agg24 : aggB Tryd.prog 24 = some true := by kernel_rfl
theorem Tryd.fld24at0 : fieldOff Tryd.prog 24 0 = some 0 := by kernel_rfl
theorem Tryd.fld24at1 : fieldOff Tryd.prog 24 1 = some 1 := by kernel_rfl
theorem Tryd.fld24at2 : fieldOff Tryd.prog 24 2 = some 2 := by kernel_rfl
theorem Tryd.plc24 : placesOf Tryd.prog 24 = some [(0, 1), (1, 1), (2, 1)] := by kernel_rfl
theorem Tryd.inf27 : tinf Tryd.prog 27 = some (1, 24, some (.slice none 0 0)) := by kernel_rfl
theorem Tryd.agg27 : aggB Tryd.prog 27 = some false := by kernel_rfl
theorem Tryd.sl27 : slElem Tryd.prog 27 = some 56 := by kernel_rfl
theorem Tryd.inf29 : tinf Tryd.prog 29 = some (3, 48, some (.agg #[(.int .i64 0), (.slice none 0 0), (.string ⟨#[]⟩)])) := by kernel_rfl
theorem Tryd.agg29 : aggB Tryd.prog 29 = some true := by kernel_rfl
theorem Tryd.fld29at0 : fieldOff Tryd.prog 29 0 = some 0 := by kernel_rfl
theorem Tryd.fld29at1 : fieldOff Tryd.prog 29 1 = some 1 := by kernel_rfl
theorem Tryd.fld29at2 : fieldOff Tryd.prog 29 2 = some 2 := by kernel_rfl
theorem Tryd.plc29 : placesOf Tryd.prog 29 = some [(0, 1), (1, 1), (2, 1)] := by kernel_rfl
theorem Tryd.inf33 : tinf Tryd.prog 33 = some (1, 24, some (.slice none 0 0)) := by kernel_rfl
theorem Tryd.agg33 : aggB Tryd.prog 33 = some false := by kernel_rfl
theorem Tryd.sl33 : slElem Tryd.prog 33 = some 2 := by kernel_rfl
theorem Tryd.inf40 : tinf Tryd.prog 40 = some (1, 24, some (.slice none 0 0)) := by kernel_rfl
theorem Tryd.agg40 : aggB Tryd.prog 40 = some false := by kernel_rfl
theorem Tryd.sl40 : slElem Tryd.prog 40 = some 93 := by kernel_rfl
theorem Tryd.inf46 : tinf Tryd.prog 46 = some (1, 24, some (.slice none 0 0)) := by kernel_rfl
theorem Tryd.agg46 : aggB Tryd.prog 46 = some false := by kernel_rfl
theorem Tryd.sl46 : slElem Tryd.prog 46 = some 5 := by kernel_rfl
theorem Tryd.inf56 : tinf Tryd.prog 56 = some (2, 24, some (.agg #[(.string ⟨#[]⟩), (.int .i64 0)])) := by kernel_rfl
theorem Tryd.agg56 : aggB Tryd.prog 56 = some true := by kernel_rfl
theorem Tryd.fld56at0 : fieldOff Tryd.prog 56 0 = some 0 := by kernel_rfl
theorem Tryd.fld56at1 : fieldOff Tryd.prog 56 1 = some 1 := by kernel_rfl
theorem Tryd.plc56 : placesOf Tryd.prog 56 = some [(0, 1), (1, 1)] := by kernel_rfl
theorem Tryd.flt56 : flatKinds Tryd.prog 56 = some [2, 0] := by kernel_rfl
theorem Tryd.inf69 : tinf Tryd.prog 69 = some (1, 24, some (.slice none 0 0)) := by kernel_rfl
theorem Tryd.agg69 : aggB Tryd.prog 69 = some false := by kernel_rfl
theorem Tryd.sl69 : slElem Tryd.prog 69 = some 118 := by kernel_rfl
theorem Tryd.inf79 : tinf Tryd.prog 79 = some (1, 8, some (.pointer none)) := by kernel_rfl
theorem Tryd.agg79 : aggB Tryd.prog 79 = some false := by kernel_rfl
theorem Tryd.inf89 : tinf Tryd.prog 89 = some (1, 24, some (.slice none 0 0)) := by kernel_rfl
theorem Tryd.agg89 : aggB Tryd.prog 89 = some false := by kernel_rfl
theorem Tryd.sl89 : slElem Tryd.prog 89 = some 9 := by kernel_rfl
theorem Tryd.inf93 : tinf Tryd.prog 93 = some (2, 16, some (.agg #[(.int .i64 0), (.int .i64 0)])) := by kernel_rfl
theorem Tryd.agg93 : aggB Tryd.prog 93 = some true := by kernel_rfl
theorem Tryd.fld93at0 : fieldOff Tryd.prog 93 0 = some 0 := by kernel_rfl
theorem Tryd.fld93at1 : fieldOff Tryd.prog 93 1 = some 1 := by kernel_rfl
theorem Tryd.plc93 : placesOf Tryd.prog 93 = some [(0, 1), (1, 1)] := by kernel_rfl
theorem Tryd.flt93 : flatKinds Tryd.prog 93 = some [0, 0] := by kernel_rfl
theorem Tryd.inf99 : tinf Tryd.prog 99 = some (1, 8, some (.pointer none)) := by kernel_rfl
theorem Tryd.agg99 : aggB Tryd.prog 99 = some false := by kernel_rfl
theorem Tryd.inf118 : tinf Tryd.prog 118 = some (2, 16, some (.agg #[(.int .i64 0), (.int .i64 0)])) := by kernel_rfl
theorem Tryd.agg118 : aggB Tryd.prog 118 = some true := by kernel_rfl
theorem Tryd.fld118at0 : fieldOff Tryd.prog 118 0 = some 0 := by kernel_rfl
theorem Tryd.fld118at1 : fieldOff Tryd.prog 118 1 = some 1 := by kernel_rfl
theorem Tryd.plc118 : placesOf Tryd.prog 118 = some [(0, 1), (1, 1)] := by kernel_rfl
theorem Tryd.flt118 : flatKinds Tryd.prog 118 = some [0, 0] := by kernel_rfl
theorem Tryd.inf120 : tinf Tryd.prog 120 = some (2, 24, some (.agg #[(.string ⟨#[]⟩), (.int .i64 0)])) := by kernel_rfl
theorem Tryd.agg120 : aggB Tryd.prog 120 = some true := by kernel_rfl
theorem Tryd.fld120at0 : fieldOff Tryd.prog 120 0 = some 0 := by kernel_rfl
theorem Tryd.fld120at1 : fieldOff Tryd.prog 120 1 = some 1 := by kernel_rfl
theorem Tryd.plc120 : placesOf Tryd.prog 120 = some [(0, 1), (1, 1)] := by kernel_rfl
theorem Tryd.flt120 : flatKinds Tryd.prog 120 = some [2, 0] := by kernel_rfl
theorem Tryd.inf131 : tinf Tryd.prog 131 = some (1, 8, some (.int .u64 0)) := by kernel_rfl
theorem Tryd.agg131 : aggB Tryd.prog 131 = some false := by kernel_rfl
theorem Tryd.knd131 : ukind Tryd.prog 131 = some .u64 := by kernel_rfl
theorem Tryd.uns131 : (Tryd.prog.underlying 131).isSome = true := by kernel_rfl
theorem Tryd.inf133 : tinf Tryd.prog 133 = some (3, 40, some (.agg #[(.slice none 0 0), (.int .i64 0), (.int .u64 0)])) := by kernel_rfl
theorem Tryd.agg133 : aggB Tryd.prog 133 = some true := by kernel_rfl
theorem Tryd.fld133at0 : fieldOff Tryd.prog 133 0 = some 0 := by kernel_rfl
theorem Tryd.fld133at1 : fieldOff Tryd.prog 133 1 = some 1 := by kernel_rfl
theorem Tryd.fld133at2 : fieldOff Tryd.prog 133 2 = some 2 := by kernel_rfl
theorem Tryd.plc133 : placesOf Tryd.prog 133 = some [(0, 1), (1, 1), (2, 1)] := by kernel_rfl
theorem Tryd.inf143 : tinf Tryd.prog 143 = some (1, 8, some (.int .u64 0)) := by kernel_rfl
theorem Tryd.agg143 : aggB Tryd.prog 143 = some false := by kernel_rfl
theorem Tryd.knd143 : ukind Tryd.prog 143 = some .u64 := by kernel_rfl
theorem Tryd.uns143 : (Tryd.prog.underlying 143).isSome = true := by kernel_rfl
theorem Tryd.inf150 : tinf Tryd.prog 150 = some (1, 8, some (.pointer none)) := by kernel_rfl
theorem Tryd.agg150 : aggB Tryd.prog 150 = some false := by kernel_rfl
theorem Tryd.inf165 : tinf Tryd.prog 165 = some (1, 4, some (.int .u32 0)) := by kernel_rfl
theorem Tryd.agg165 : aggB Tryd.prog 165 = some false := by kernel_rfl
theorem Tryd.knd165 : ukind Tryd.prog 165 = some .u32 := by kernel_rfl
theorem Tryd.uns165 : (Tryd.prog.underlying 165).isSome = true := by kernel_rfl
theorem Tryd.inf173 : tinf Tryd.prog 173 = some (2, 2, some (.agg #[(.int .u8 0), (.int .u8 0)])) := by kernel_rfl
theorem Tryd.agg173 : aggB Tryd.prog 173 = some true := by kernel_rfl
theorem Tryd.fld173at0 : fieldOff Tryd.prog 173 0 = some 0 := by kernel_rfl
theorem Tryd.fld173at1 : fieldOff Tryd.prog 173 1 = some 1 := by kernel_rfl
theorem Tryd.plc173 : placesOf Tryd.prog 173 = some [(0, 1), (1, 1)] := by kernel_rfl
theorem Tryd.flt173 : flatKinds Tryd.prog 173 = some [0, 0] := by kernel_rfl
theorem Tryd.inf188 : tinf Tryd.prog 188 = some (1, 1, some (.int .u8 0)) := by kernel_rfl
theorem Tryd.agg188 : aggB Tryd.prog 188 = some false := by kernel_rfl
theorem Tryd.knd188 : ukind Tryd.prog 188 = some .u8 := by kernel_rfl
theorem Tryd.uns188 : (Tryd.prog.underlying 188).isSome = true := by kernel_rfl
theorem Tryd.cal3 : callable Tryd.prog 3 = true := by kernel_rfl
theorem Tryd.cal4 : callable Tryd.prog 4 = true := by kernel_rfl
theorem Tryd.cal5 : callable Tryd.prog 5 = true := by kernel_rfl
theorem Tryd.cal6 : callable Tryd.prog 6 = true := by kernel_rfl
theorem Tryd.cal7 : callable Tryd.prog 7 = true := by kernel_rfl
theorem Tryd.cal8 : callable Tryd.prog 8 = true := by kernel_rfl
theorem Tryd.cal9 : callable Tryd.prog 9 = true := by kernel_rfl
theorem Tryd.cal10 : callable Tryd.prog 10 = true := by kernel_rfl
theorem Tryd.cal11 : callable Tryd.prog 11 = true := by kernel_rfl
theorem Tryd.cal12 : callable Tryd.prog 12 = true := by kernel_rfl
theorem Tryd.cal13 : callable Tryd.prog 13 = true := by kernel_rfl
theorem Tryd.cal14 : callable Tryd.prog 14 = true := by kernel_rfl
theorem Tryd.cal15 : callable Tryd.prog 15 = true := by kernel_rfl
theorem Tryd.cal16 : callable Tryd.prog 16 = true := by kernel_rfl
theorem Tryd.cal17 : callable Tryd.prog 17 = true := by kernel_rfl
theorem Tryd.cal18 : callable Tryd.prog 18 = true := by kernel_rfl
theorem Tryd.cal19 : callable Tryd.prog 19 = true := by kernel_rfl
theorem Tryd.cal20 : callable Tryd.prog 20 = true := by kernel_rfl
theorem Tryd.cal21 : callable Tryd.prog 21 = true := by kernel_rfl
theorem Tryd.cal22 : callable Tryd.prog 22 = true := by kernel_rfl
theorem Tryd.cal23 : callable Tryd.prog 23 = true := by kernel_rfl
theorem Tryd.cal24 : callable Tryd.prog 24 = true := by kernel_rfl
theorem Tryd.cal25 : callable Tryd.prog 25 = true := by kernel_rfl
theorem Tryd.cal26 : callable Tryd.prog 26 = true := by kernel_rfl
theorem Tryd.cal27 : callable Tryd.prog 27 = true := by kernel_rfl
theorem Tryd.cal28 : callable Tryd.prog 28 = true := by kernel_rfl
theorem Tryd.cal29 : callable Tryd.prog 29 = true := by kernel_rfl
theorem Tryd.cal30 : callable Tryd.prog 30 = true := by kernel_rfl
theorem Tryd.cal31 : callable Tryd.prog 31 = true := by kernel_rfl
theorem Tryd.cal32 : callable Tryd.prog 32 = true := by kernel_rfl
theorem Tryd.cal33 : callable Tryd.prog 33 = true := by kernel_rfl
theorem Tryd.cal34 : callable Tryd.prog 34 = true := by kernel_rfl
theorem Tryd.cal35 : callable Tryd.prog 35 = true := by kernel_rfl
theorem Tryd.cal36 : callable Tryd.prog 36 = true := by kernel_rfl
theorem Tryd.cal37 : callable Tryd.prog 37 = true := by kernel_rfl
theorem Tryd.cal38 : callable Tryd.prog 38 = true := by kernel_rfl
theorem Tryd.cal39 : callable Tryd.prog 39 = true := by kernel_rfl
theorem Tryd.cal40 : callable Tryd.prog 40 = true := by kernel_rfl
theorem Tryd.cal41 : callable Tryd.prog 41 = true := by kernel_rfl
theorem Tryd.cal42 : callable Tryd.prog 42 = true := by kernel_rfl
theorem Tryd.cal43 : callable Tryd.prog 43 = true := by kernel_rfl
theorem Tryd.cal44 : callable Tryd.prog 44 = true := by kernel_rfl
theorem Tryd.cal45 : callable Tryd.prog 45 = true := by kernel_rfl
theorem Tryd.cal46 : callable Tryd.prog 46 = true := by kernel_rfl
theorem Tryd.cal47 : callable Tryd.prog 47 = true := by kernel_rfl
theorem Tryd.cal48 : callable Tryd.prog 48 = true := by kernel_rfl
theorem Tryd.cal49 : callable Tryd.prog 49 = true := by kernel_rfl
theorem Tryd.cal50 : callable Tryd.prog 50 = true := by kernel_rfl
theorem Tryd.cal51 : callable Tryd.prog 51 = true := by kernel_rfl
theorem Tryd.cal52 : callable Tryd.prog 52 = true := by kernel_rfl
theorem Tryd.cal53 : callable Tryd.prog 53 = true := by kernel_rfl
theorem Tryd.cal54 : callable Tryd.prog 54 = true := by kernel_rfl
theorem Tryd.cal55 : callable Tryd.prog 55 = true := by kernel_rfl
theorem Tryd.cal56 : callable Tryd.prog 56 = true := by kernel_rfl
theorem Tryd.cal57 : callable Tryd.prog 57 = true := by kernel_rfl
theorem Tryd.cal58 : callable Tryd.prog 58 = true := by kernel_rfl
theorem Tryd.cal59 : callable Tryd.prog 59 = true := by kernel_rfl
theorem Tryd.cal60 : callable Tryd.prog 60 = true := by kernel_rfl
theorem Tryd.cal61 : callable Tryd.prog 61 = true := by kernel_rfl
theorem Tryd.cal62 : callable Tryd.prog 62 = true := by kernel_rfl
theorem Tryd.cal63 : callable Tryd.prog 63 = true := by kernel_rfl
theorem Tryd.cal64 : callable Tryd.prog 64 = true := by kernel_rfl
theorem Tryd.cal65 : callable Tryd.prog 65 = true := by kernel_rfl
theorem Tryd.cal66 : callable Tryd.prog 66 = true := by kernel_rfl
theorem Tryd.cal67 : callable Tryd.prog 67 = true := by kernel_rfl
theorem Tryd.cal68 : callable Tryd.prog 68 = true := by kernel_rfl
theorem Tryd.cal69 : callable Tryd.prog 69 = true := by kernel_rfl
theorem Tryd.cal70 : callable Tryd.prog 70 = true := by kernel_rfl
theorem Tryd.cal71 : callable Tryd.prog 71 = true := by kernel_rfl
theorem Tryd.cal72 : callable Tryd.prog 72 = true := by kernel_rfl
theorem Tryd.cal73 : callable Tryd.prog 73 = true := by kernel_rfl
theorem Tryd.cal74 : callable Tryd.prog 74 = true := by kernel_rfl
theorem Tryd.cal75 : callable Tryd.prog 75 = true := by kernel_rfl
theorem Tryd.cal76 : callable Tryd.prog 76 = true := by kernel_rfl
theorem Tryd.cal77 : callable Tryd.prog 77 = true := by kernel_rfl
theorem Tryd.cal78 : callable Tryd.prog 78 = true := by kernel_rfl
theorem Tryd.cal79 : callable Tryd.prog 79 = true := by kernel_rfl
theorem Tryd.cal80 : callable Tryd.prog 80 = true := by kernel_rfl
theorem Tryd.cal81 : callable Tryd.prog 81 = true := by kernel_rfl
theorem Tryd.cal82 : callable Tryd.prog 82 = true := by kernel_rfl
theorem Tryd.cal83 : callable Tryd.prog 83 = true := by kernel_rfl
theorem Tryd.cal84 : callable Tryd.prog 84 = true := by kernel_rfl
theorem Tryd.cal85 : callable Tryd.prog 85 = true := by kernel_rfl
theorem Tryd.cal86 : callable Tryd.prog 86 = true := by kernel_rfl
theorem Tryd.cal87 : callable Tryd.prog 87 = true := by kernel_rfl
theorem Tryd.cal88 : callable Tryd.prog 88 = true := by kernel_rfl
theorem Tryd.cal89 : callable Tryd.prog 89 = true := by kernel_rfl
theorem Tryd.cal90 : callable Tryd.prog 90 = true := by kernel_rfl
theorem Tryd.cal91 : callable Tryd.prog 91 = true := by kernel_rfl
theorem Tryd.cal92 : callable Tryd.prog 92 = true := by kernel_rfl
theorem Tryd.cal93 : callable Tryd.prog 93 = true := by kernel_rfl
theorem Tryd.cal94 : callable Tryd.prog 94 = true := by kernel_rfl
theorem Tryd.cal95 : callable Tryd.prog 95 = true := by kernel_rfl
theorem Tryd.cal96 : callable Tryd.prog 96 = true := by kernel_rfl
theorem Tryd.cal97 : callable Tryd.prog 97 = true := by kernel_rfl
theorem Tryd.cal98 : callable Tryd.prog 98 = true := by kernel_rfl
theorem Tryd.cal99 : callable Tryd.prog 99 = true := by kernel_rfl
theorem Tryd.cal100 : callable Tryd.prog 100 = true := by kernel_rfl
theorem Tryd.cal101 : callable Tryd.prog 101 = true := by kernel_rfl
theorem Tryd.cal102 : callable Tryd.prog 102 = true := by kernel_rfl
theorem Tryd.cal103 : callable Tryd.prog 103 = true := by kernel_rfl
theorem Tryd.cal104 : callable Tryd.prog 104 = true := by kernel_rfl
theorem Tryd.cal105 : callable Tryd.prog 105 = true := by kernel_rfl
theorem Tryd.cal106 : callable Tryd.prog 106 = true := by kernel_rfl
theorem Tryd.cal107 : callable Tryd.prog 107 = true := by kernel_rfl
theorem Tryd.cal108 : callable Tryd.prog 108 = true := by kernel_rfl
theorem Tryd.cal109 : callable Tryd.prog 109 = true := by kernel_rfl
theorem Tryd.cal110 : callable Tryd.prog 110 = true := by kernel_rfl
theorem Tryd.cal111 : callable Tryd.prog 111 = true := by kernel_rfl
theorem Tryd.cal112 : callable Tryd.prog 112 = true := by kernel_rfl
theorem Tryd.cal113 : callable Tryd.prog 113 = true := by kernel_rfl
theorem Tryd.cal114 : callable Tryd.prog 114 = true := by kernel_rfl
theorem Tryd.cal115 : callable Tryd.prog 115 = true := by kernel_rfl
theorem Tryd.cal116 : callable Tryd.prog 116 = true := by kernel_rfl
theorem Tryd.cal117 : callable Tryd.prog 117 = true := by kernel_rfl
theorem Tryd.cal118 : callable Tryd.prog 118 = true := by kernel_rfl
theorem Tryd.cal119 : callable Tryd.prog 119 = true := by kernel_rfl
theorem Tryd.cal120 : callable Tryd.prog 120 = true := by kernel_rfl
theorem Tryd.cal121 : callable Tryd.prog 121 = true := by kernel_rfl
theorem Tryd.cal122 : callable Tryd.prog 122 = true := by kernel_rfl
theorem Tryd.cal123 : callable Tryd.prog 123 = true := by kernel_rfl
theorem Tryd.cal124 : callable Tryd.prog 124 = true := by kernel_rfl
theorem Tryd.cal125 : callable Tryd.prog 125 = true := by kernel_rfl
theorem Tryd.cal126 : callable Tryd.prog 126 = true := by kernel_rfl
theorem Tryd.cal127 : callable Tryd.prog 127 = true := by kernel_rfl
theorem Tryd.cal128 : callable Tryd.prog 128 = true := by kernel_rfl
theorem Tryd.cal129 : callable Tryd.prog 129 = true := by kernel_rfl
theorem Tryd.cal130 : callable Tryd.prog 130 = true := by kernel_rfl
theorem Tryd.cal131 : callable Tryd.prog 131 = true := by kernel_rfl
theorem Tryd.cal132 : callable Tryd.prog 132 = true := by kernel_rfl
theorem Tryd.cal133 : callable Tryd.prog 133 = true := by kernel_rfl
theorem Tryd.cal135 : callable Tryd.prog 135 = true := by kernel_rfl
theorem Tryd.cal136 : callable Tryd.prog 136 = true := by kernel_rfl
theorem Tryd.cal137 : callable Tryd.prog 137 = true := by kernel_rfl
theorem Tryd.cal138 : callable Tryd.prog 138 = true := by kernel_rfl
theorem Tryd.cal139 : callable Tryd.prog 139 = true := by kernel_rfl
theorem Tryd.cal140 : callable Tryd.prog 140 = true := by kernel_rfl
theorem Tryd.cal141 : callable Tryd.prog 141 = true := by kernel_rfl
theorem Tryd.cal142 : callable Tryd.prog 142 = true := by kernel_rfl
theorem Tryd.cal143 : callable Tryd.prog 143 = true := by kernel_rfl
theorem Tryd.cal144 : callable Tryd.prog 144 = true := by kernel_rfl
theorem Tryd.cal145 : callable Tryd.prog 145 = true := by kernel_rfl
theorem Tryd.cal146 : callable Tryd.prog 146 = true := by kernel_rfl
theorem Tryd.cal147 : callable Tryd.prog 147 = true := by kernel_rfl
theorem Tryd.cal148 : callable Tryd.prog 148 = true := by kernel_rfl
theorem Tryd.cal149 : callable Tryd.prog 149 = true := by kernel_rfl
theorem Tryd.cal154 : callable Tryd.prog 154 = true := by kernel_rfl
theorem Tryd.cal155 : callable Tryd.prog 155 = true := by kernel_rfl
theorem Tryd.cal156 : callable Tryd.prog 156 = true := by kernel_rfl
theorem Tryd.cal157 : callable Tryd.prog 157 = true := by kernel_rfl
theorem Tryd.cal161 : callable Tryd.prog 161 = true := by kernel_rfl
theorem Tryd.cal162 : callable Tryd.prog 162 = true := by kernel_rfl
theorem Tryd.cal163 : callable Tryd.prog 163 = true := by kernel_rfl
theorem Tryd.cal165 : callable Tryd.prog 165 = true := by kernel_rfl
theorem Tryd.cal168 : callable Tryd.prog 168 = true := by kernel_rfl
theorem Tryd.cal169 : callable Tryd.prog 169 = true := by kernel_rfl
theorem Tryd.cal170 : callable Tryd.prog 170 = true := by kernel_rfl
theorem Tryd.cal176 : callable Tryd.prog 176 = true := by kernel_rfl
theorem Tryd.cal177 : callable Tryd.prog 177 = true := by kernel_rfl
theorem Tryd.cal178 : callable Tryd.prog 178 = true := by kernel_rfl
theorem Tryd.cal179 : callable Tryd.prog 179 = true := by kernel_rfl
theorem Tryd.cal182 : callable Tryd.prog 182 = true := by kernel_rfl
theorem Tryd.cal183 : callable Tryd.prog 183 = true := by kernel_rfl
theorem Tryd.cvs2 : cvStr 2 = false := by kernel_rfl
theorem Tryd.cvs3 : cvStr 3 = false := by kernel_rfl
theorem Tryd.cvs5 : cvStr 5 = false := by kernel_rfl
theorem Tryd.cvs9 : cvStr 9 = true := by kernel_rfl
theorem Tryd.cvs21 : cvStr 21 = false := by kernel_rfl
theorem Tryd.cvs131 : cvStr 131 = false := by kernel_rfl
theorem Tryd.cvs143 : cvStr 143 = false := by kernel_rfl
theorem Tryd.cvs165 : cvStr 165 = false := by kernel_rfl
theorem Tryd.byt46at9 : bytesT Tryd.prog 46 9 = true := by kernel_rfl
attribute [simp] Tryd.inf2 Tryd.agg2 Tryd.knd2 Tryd.uns2 Tryd.inf3 Tryd.agg3 Tryd.knd3 Tryd.uns3 Tryd.inf4 Tryd.agg4 Tryd.bol4 Tryd.inf5 Tryd.agg5 Tryd.knd5 Tryd.uns5 Tryd.inf6 Tryd.agg6 Tryd.knd6 Tryd.uns6 Tryd.inf8 Tryd.agg8 Tryd.inf9 Tryd.agg9 Tryd.str9 Tryd.inf10 Tryd.agg10 Tryd.str10 Tryd.inf11 Tryd.agg11 Tryd.str11 Tryd.inf12 Tryd.agg12 Tryd.knd12 Tryd.uns12 Tryd.inf14 Tryd.agg14 Tryd.fld14at0 Tryd.fld14at1 Tryd.plc14 Tryd.inf15 Tryd.agg15 Tryd.inf16 Tryd.agg16 Tryd.inf17 Tryd.agg17 Tryd.inf19 Tryd.agg19 Tryd.fld19at0 Tryd.plc19 Tryd.inf21 Tryd.agg21 Tryd.knd21 Tryd.uns21 Tryd.inf22 Tryd.agg22 Tryd.sl22 Tryd.inf24 Tryd.agg24 Tryd.fld24at0 Tryd.fld24at1 Tryd.fld24at2 Tryd.plc24 Tryd.inf27 Tryd.agg27 Tryd.sl27 Tryd.inf29 Tryd.agg29 Tryd.fld29at0 Tryd.fld29at1 Tryd.fld29at2 Tryd.plc29 Tryd.inf33 Tryd.agg33 Tryd.sl33 Tryd.inf40 Tryd.agg40 Tryd.sl40 Tryd.inf46 Tryd.agg46 Tryd.sl46 Tryd.inf56 Tryd.agg56 Tryd.fld56at0 Tryd.fld56at1 Tryd.plc56 Tryd.flt56 Tryd.inf69 Tryd.agg69 Tryd.sl69 Tryd.inf79 Tryd.agg79 Tryd.inf89 Tryd.agg89 Tryd.sl89 Tryd.inf93 Tryd.agg93 Tryd.fld93at0 Tryd.fld93at1 Tryd.plc93 Tryd.flt93 Tryd.inf99 Tryd.agg99 Tryd.inf118 Tryd.agg118 Tryd.fld118at0 Tryd.fld118at1 Tryd.plc118 Tryd.flt118 Tryd.inf120 Tryd.agg120 Tryd.fld120at0 Tryd.fld120at1 Tryd.plc120 Tryd.flt120 Tryd.inf131 Tryd.agg131 Tryd.knd131 Tryd.uns131 Tryd.inf133 Tryd.agg133 Tryd.fld133at0 Tryd.fld133at1 Tryd.fld133at2 Tryd.plc133 Tryd.inf143 Tryd.agg143 Tryd.knd143 Tryd.uns143 Tryd.inf150 Tryd.agg150 Tryd.inf165 Tryd.agg165 Tryd.knd165 Tryd.uns165 Tryd.inf173 Tryd.agg173 Tryd.fld173at0 Tryd.fld173at1 Tryd.plc173 Tryd.flt173 Tryd.inf188 Tryd.agg188 Tryd.knd188 Tryd.uns188 Tryd.cal3 Tryd.cal4 Tryd.cal5 Tryd.cal6 Tryd.cal7 Tryd.cal8 Tryd.cal9 Tryd.cal10 Tryd.cal11 Tryd.cal12 Tryd.cal13 Tryd.cal14 Tryd.cal15 Tryd.cal16 Tryd.cal17 Tryd.cal18 Tryd.cal19 Tryd.cal20 Tryd.cal21 Tryd.cal22 Tryd.cal23 Tryd.cal24 Tryd.cal25 Tryd.cal26 Tryd.cal27 Tryd.cal28 Tryd.cal29 Tryd.cal30 Tryd.cal31 Tryd.cal32 Tryd.cal33 Tryd.cal34 Tryd.cal35 Tryd.cal36 Tryd.cal37 Tryd.cal38 Tryd.cal39 Tryd.cal40 Tryd.cal41 Tryd.cal42 Tryd.cal43 Tryd.cal44 Tryd.cal45 Tryd.cal46 Tryd.cal47 Tryd.cal48 Tryd.cal49 Tryd.cal50 Tryd.cal51 Tryd.cal52 Tryd.cal53 Tryd.cal54 Tryd.cal55 Tryd.cal56 Tryd.cal57 Tryd.cal58 Tryd.cal59 Tryd.cal60 Tryd.cal61 Tryd.cal62 Tryd.cal63 Tryd.cal64 Tryd.cal65 Tryd.cal66 Tryd.cal67 Tryd.cal68 Tryd.cal69 Tryd.cal70 Tryd.cal71 Tryd.cal72 Tryd.cal73 Tryd.cal74 Tryd.cal75 Tryd.cal76 Tryd.cal77 Tryd.cal78 Tryd.cal79 Tryd.cal80 Tryd.cal81 Tryd.cal82 Tryd.cal83 Tryd.cal84 Tryd.cal85 Tryd.cal86 Tryd.cal87 Tryd.cal88 Tryd.cal89 Tryd.cal90 Tryd.cal91 Tryd.cal92 Tryd.cal93 Tryd.cal94 Tryd.cal95 Tryd.cal96 Tryd.cal97 Tryd.cal98 Tryd.cal99 Tryd.cal100 Tryd.cal101 Tryd.cal102 Tryd.cal103 Tryd.cal104 Tryd.cal105 Tryd.cal106 Tryd.cal107 Tryd.cal108 Tryd.cal109 Tryd.cal110 Tryd.cal111 Tryd.cal112 Tryd.cal113 Tryd.cal114 Tryd.cal115 Tryd.cal116 Tryd.cal117 Tryd.cal118 Tryd.cal119 Tryd.cal120 Tryd.cal121 Tryd.cal122 Tryd.cal123 Tryd.cal124 Tryd.cal125 Tryd.cal126 Tryd.cal127 Tryd.cal128 Tryd.cal129 Tryd.cal130 Tryd.cal131 Tryd.cal132 Tryd.cal133 Tryd.cal135 Tryd.cal136 Tryd.cal137 Tryd.cal138 Tryd.cal139 Tryd.cal140 Tryd.cal141 Tryd.cal142 Tryd.cal143 Tryd.cal144 Tryd.cal145 Tryd.cal146 Tryd.cal147 Tryd.cal148 Tryd.cal149 Tryd.cal154 Tryd.cal155 Tryd.cal156 Tryd.cal157 Tryd.cal161 Tryd.cal162 Tryd.cal163 Tryd.cal165 Tryd.cal168 Tryd.cal169 Tryd.cal170 Tryd.cal176 Tryd.cal177 Tryd.cal178 Tryd.cal179 Tryd.cal182 Tryd.cal183 Tryd.cvs2 Tryd.cvs3 Tryd.cvs5 Tryd.cvs9 Tryd.cvs21 Tryd.cvs131 Tryd.cvs143 Tryd.cvs165 Tryd.byt46at9
end Go.Proofs.YtmbijgnmbapchaaDoor
