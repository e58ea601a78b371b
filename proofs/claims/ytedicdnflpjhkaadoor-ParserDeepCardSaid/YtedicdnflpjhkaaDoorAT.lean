/- Facts on the program's table of types, each by the kernel. No condition. -/
import Derived.Test.YtedicdnflpjhkaaDoorProg
import Derived.Test.YtedicdnflpjhkaaDoorA9
namespace Go.Proofs.YtedicdnflpjhkaaDoor
open Go.Aw
set_option maxRecDepth 100000
@[go_sem] theorem Tryd_tkind1 : tkind Tryd.prog 1 = some (false, 1) := by kernel_rfl
@[go_sem] theorem Tryd_concD1 : concD Tryd.prog 1 = true := by kernel_rfl
@[go_sem] theorem Tryd_zeroD1 : zeroD Tryd.prog 1 = some (.v .nilFunc) := by kernel_rfl
@[go_sem] theorem Tryd_infoD1 : (Tryd.prog.info? 1).map (fun i => (i.zero, i.size, i.bytes)) = some (some .nilFunc, 1, 8) := by kernel_rfl
@[go_sem] theorem Tryd_funcD1 : funcD Tryd.prog 1 = true := by kernel_rfl
@[go_sem] theorem Tryd_nf1 : nilFits Tryd.prog 1 .nilFunc = true := by kernel_rfl
@[go_sem] theorem Tryd_tkind2 : tkind Tryd.prog 2 = some (false, 1) := by kernel_rfl
@[go_sem] theorem Tryd_concD2 : concD Tryd.prog 2 = true := by kernel_rfl
@[go_sem] theorem Tryd_zeroD2 : zeroD Tryd.prog 2 = some (.v (.int .i64 0)) := by kernel_rfl
@[go_sem] theorem Tryd_infoD2 : (Tryd.prog.info? 2).map (fun i => (i.zero, i.size, i.bytes)) = some (some (.int .i64 0), 1, 8) := by kernel_rfl
@[go_sem] theorem Tryd_intD2 : intD Tryd.prog 2 = some .i64 := by kernel_rfl
@[go_sem] theorem Tryd_und2 : (Tryd.prog.underlying 2).isSome = true := by kernel_rfl
@[go_sem] theorem Tryd_shapeD2 : shapeD Tryd.prog 8 2 = some [.int .i64] := by kernel_rfl
@[go_sem] theorem Tryd_eqG2 : eqG Tryd.prog 2 = true := by kernel_rfl
@[go_sem] theorem Tryd_tkind3 : tkind Tryd.prog 3 = some (false, 1) := by kernel_rfl
@[go_sem] theorem Tryd_concD3 : concD Tryd.prog 3 = true := by kernel_rfl
@[go_sem] theorem Tryd_zeroD3 : zeroD Tryd.prog 3 = some (.v (.int .i64 0)) := by kernel_rfl
@[go_sem] theorem Tryd_infoD3 : (Tryd.prog.info? 3).map (fun i => (i.zero, i.size, i.bytes)) = some (some (.int .i64 0), 1, 8) := by kernel_rfl
@[go_sem] theorem Tryd_intD3 : intD Tryd.prog 3 = some .i64 := by kernel_rfl
@[go_sem] theorem Tryd_und3 : (Tryd.prog.underlying 3).isSome = true := by kernel_rfl
@[go_sem] theorem Tryd_shapeD3 : shapeD Tryd.prog 8 3 = some [.int .i64] := by kernel_rfl
@[go_sem] theorem Tryd_eqG3 : eqG Tryd.prog 3 = true := by kernel_rfl
@[go_sem] theorem Tryd_tkind4 : tkind Tryd.prog 4 = some (false, 1) := by kernel_rfl
@[go_sem] theorem Tryd_concD4 : concD Tryd.prog 4 = true := by kernel_rfl
@[go_sem] theorem Tryd_zeroD4 : zeroD Tryd.prog 4 = some (.v (.bool false)) := by kernel_rfl
@[go_sem] theorem Tryd_infoD4 : (Tryd.prog.info? 4).map (fun i => (i.zero, i.size, i.bytes)) = some (some (.bool false), 1, 1) := by kernel_rfl
@[go_sem] theorem Tryd_boolD4 : boolD Tryd.prog 4 = true := by kernel_rfl
@[go_sem] theorem Tryd_shapeD4 : shapeD Tryd.prog 8 4 = some [.bool] := by kernel_rfl
@[go_sem] theorem Tryd_eqG4 : eqG Tryd.prog 4 = true := by kernel_rfl
@[go_sem] theorem Tryd_tkind5 : tkind Tryd.prog 5 = some (false, 1) := by kernel_rfl
@[go_sem] theorem Tryd_concD5 : concD Tryd.prog 5 = true := by kernel_rfl
@[go_sem] theorem Tryd_zeroD5 : zeroD Tryd.prog 5 = some (.v (.int .u8 0)) := by kernel_rfl
@[go_sem] theorem Tryd_infoD5 : (Tryd.prog.info? 5).map (fun i => (i.zero, i.size, i.bytes)) = some (some (.int .u8 0), 1, 1) := by kernel_rfl
@[go_sem] theorem Tryd_intD5 : intD Tryd.prog 5 = some .u8 := by kernel_rfl
@[go_sem] theorem Tryd_und5 : (Tryd.prog.underlying 5).isSome = true := by kernel_rfl
@[go_sem] theorem Tryd_shapeD5 : shapeD Tryd.prog 8 5 = some [.int .u8] := by kernel_rfl
@[go_sem] theorem Tryd_eqG5 : eqG Tryd.prog 5 = true := by kernel_rfl
@[go_sem] theorem Tryd_tkind6 : tkind Tryd.prog 6 = some (false, 1) := by kernel_rfl
@[go_sem] theorem Tryd_concD6 : concD Tryd.prog 6 = true := by kernel_rfl
@[go_sem] theorem Tryd_zeroD6 : zeroD Tryd.prog 6 = some (.v (.int .u8 0)) := by kernel_rfl
@[go_sem] theorem Tryd_infoD6 : (Tryd.prog.info? 6).map (fun i => (i.zero, i.size, i.bytes)) = some (some (.int .u8 0), 1, 1) := by kernel_rfl
@[go_sem] theorem Tryd_intD6 : intD Tryd.prog 6 = some .u8 := by kernel_rfl
@[go_sem] theorem Tryd_und6 : (Tryd.prog.underlying 6).isSome = true := by kernel_rfl
@[go_sem] theorem Tryd_shapeD6 : shapeD Tryd.prog 8 6 = some [.int .u8] := by kernel_rfl
@[go_sem] theorem Tryd_eqG6 : eqG Tryd.prog 6 = true := by kernel_rfl
@[go_sem] theorem Tryd_tkind7 : tkind Tryd.prog 7 = some (true, 4) := by kernel_rfl
@[go_sem] theorem Tryd_concD7 : concD Tryd.prog 7 = true := by kernel_rfl
@[go_sem] theorem Tryd_zeroD7 : zeroD Tryd.prog 7 = some (.agg [(.v (.int .i64 0)), (.v (.int .i64 0)), (.v (.bool false)), (.v (.int .u8 0))]) := by kernel_rfl
@[go_sem] theorem Tryd_infoD7 : (Tryd.prog.info? 7).map (fun i => (i.zero, i.size, i.bytes)) = some (some (.agg #[(.int .i64 0), (.int .i64 0), (.bool false), (.int .u8 0)]), 4, 24) := by kernel_rfl
@[go_sem] theorem Tryd_fieldD7_0 : fieldD Tryd.prog 7 0 = some (0, 2) := by kernel_rfl
@[go_sem] theorem Tryd_fieldD7_1 : fieldD Tryd.prog 7 1 = some (1, 3) := by kernel_rfl
@[go_sem] theorem Tryd_fieldD7_2 : fieldD Tryd.prog 7 2 = some (2, 4) := by kernel_rfl
@[go_sem] theorem Tryd_fieldD7_3 : fieldD Tryd.prog 7 3 = some (3, 6) := by kernel_rfl
@[go_sem] theorem Tryd_structD7 : structD Tryd.prog 7 = some [(0, 2), (1, 3), (2, 4), (3, 6)] := by kernel_rfl
@[go_sem] theorem Tryd_shapeD7 : shapeD Tryd.prog 8 7 = some [.int .i64, .int .i64, .bool, .int .u8] := by kernel_rfl
@[go_sem] theorem Tryd_eqG7 : eqG Tryd.prog 7 = true := by kernel_rfl
@[go_sem] theorem Tryd_tkind8 : tkind Tryd.prog 8 = some (true, 4) := by kernel_rfl
@[go_sem] theorem Tryd_concD8 : concD Tryd.prog 8 = true := by kernel_rfl
@[go_sem] theorem Tryd_zeroD8 : zeroD Tryd.prog 8 = some (.agg [(.v (.int .i64 0)), (.v (.int .i64 0)), (.v (.bool false)), (.v (.int .u8 0))]) := by kernel_rfl
@[go_sem] theorem Tryd_infoD8 : (Tryd.prog.info? 8).map (fun i => (i.zero, i.size, i.bytes)) = some (some (.agg #[(.int .i64 0), (.int .i64 0), (.bool false), (.int .u8 0)]), 4, 24) := by kernel_rfl
@[go_sem] theorem Tryd_fieldD8_0 : fieldD Tryd.prog 8 0 = some (0, 2) := by kernel_rfl
@[go_sem] theorem Tryd_fieldD8_1 : fieldD Tryd.prog 8 1 = some (1, 3) := by kernel_rfl
@[go_sem] theorem Tryd_fieldD8_2 : fieldD Tryd.prog 8 2 = some (2, 4) := by kernel_rfl
@[go_sem] theorem Tryd_fieldD8_3 : fieldD Tryd.prog 8 3 = some (3, 6) := by kernel_rfl
@[go_sem] theorem Tryd_structD8 : structD Tryd.prog 8 = some [(0, 2), (1, 3), (2, 4), (3, 6)] := by kernel_rfl
@[go_sem] theorem Tryd_shapeD8 : shapeD Tryd.prog 8 8 = some [.int .i64, .int .i64, .bool, .int .u8] := by kernel_rfl
@[go_sem] theorem Tryd_eqG8 : eqG Tryd.prog 8 = true := by kernel_rfl
@[go_sem] theorem Tryd_tkind9 : tkind Tryd.prog 9 = some (false, 1) := by kernel_rfl
@[go_sem] theorem Tryd_concD9 : concD Tryd.prog 9 = true := by kernel_rfl
@[go_sem] theorem Tryd_zeroD9 : zeroD Tryd.prog 9 = some (.str []) := by kernel_rfl
@[go_sem] theorem Tryd_infoD9 : (Tryd.prog.info? 9).map (fun i => (i.zero, i.size, i.bytes)) = some (some (.string ⟨#[]⟩), 1, 16) := by kernel_rfl
@[go_sem] theorem Tryd_strD9 : strD Tryd.prog 9 = true := by kernel_rfl
@[go_sem] theorem Tryd_shapeD9 : shapeD Tryd.prog 8 9 = some [.str] := by kernel_rfl
@[go_sem] theorem Tryd_eqG9 : eqG Tryd.prog 9 = true := by kernel_rfl
@[go_sem] theorem Tryd_tkind10 : tkind Tryd.prog 10 = some (false, 1) := by kernel_rfl
@[go_sem] theorem Tryd_concD10 : concD Tryd.prog 10 = true := by kernel_rfl
@[go_sem] theorem Tryd_zeroD10 : zeroD Tryd.prog 10 = some (.str []) := by kernel_rfl
@[go_sem] theorem Tryd_infoD10 : (Tryd.prog.info? 10).map (fun i => (i.zero, i.size, i.bytes)) = some (some (.string ⟨#[]⟩), 1, 16) := by kernel_rfl
@[go_sem] theorem Tryd_strD10 : strD Tryd.prog 10 = true := by kernel_rfl
@[go_sem] theorem Tryd_shapeD10 : shapeD Tryd.prog 8 10 = some [.str] := by kernel_rfl
@[go_sem] theorem Tryd_eqG10 : eqG Tryd.prog 10 = true := by kernel_rfl
@[go_sem] theorem Tryd_tkind11 : tkind Tryd.prog 11 = some (false, 1) := by kernel_rfl
@[go_sem] theorem Tryd_concD11 : concD Tryd.prog 11 = true := by kernel_rfl
@[go_sem] theorem Tryd_zeroD11 : zeroD Tryd.prog 11 = some (.str []) := by kernel_rfl
@[go_sem] theorem Tryd_infoD11 : (Tryd.prog.info? 11).map (fun i => (i.zero, i.size, i.bytes)) = some (some (.string ⟨#[]⟩), 1, 16) := by kernel_rfl
@[go_sem] theorem Tryd_strD11 : strD Tryd.prog 11 = true := by kernel_rfl
@[go_sem] theorem Tryd_shapeD11 : shapeD Tryd.prog 8 11 = some [.str] := by kernel_rfl
@[go_sem] theorem Tryd_eqG11 : eqG Tryd.prog 11 = true := by kernel_rfl
@[go_sem] theorem Tryd_tkind12 : tkind Tryd.prog 12 = some (false, 1) := by kernel_rfl
@[go_sem] theorem Tryd_concD12 : concD Tryd.prog 12 = true := by kernel_rfl
@[go_sem] theorem Tryd_zeroD12 : zeroD Tryd.prog 12 = some (.v (.int .u64 0)) := by kernel_rfl
@[go_sem] theorem Tryd_infoD12 : (Tryd.prog.info? 12).map (fun i => (i.zero, i.size, i.bytes)) = some (some (.int .u64 0), 1, 8) := by kernel_rfl
@[go_sem] theorem Tryd_intD12 : intD Tryd.prog 12 = some .u64 := by kernel_rfl
@[go_sem] theorem Tryd_und12 : (Tryd.prog.underlying 12).isSome = true := by kernel_rfl
@[go_sem] theorem Tryd_shapeD12 : shapeD Tryd.prog 8 12 = some [.int .u64] := by kernel_rfl
@[go_sem] theorem Tryd_eqG12 : eqG Tryd.prog 12 = true := by kernel_rfl
@[go_sem] theorem Tryd_tkind13 : tkind Tryd.prog 13 = some (true, 2) := by kernel_rfl
@[go_sem] theorem Tryd_concD13 : concD Tryd.prog 13 = true := by kernel_rfl
@[go_sem] theorem Tryd_zeroD13 : zeroD Tryd.prog 13 = some (.agg [(.str []), (.v (.int .u64 0))]) := by kernel_rfl
@[go_sem] theorem Tryd_infoD13 : (Tryd.prog.info? 13).map (fun i => (i.zero, i.size, i.bytes)) = some (some (.agg #[(.string ⟨#[]⟩), (.int .u64 0)]), 2, 24) := by kernel_rfl
@[go_sem] theorem Tryd_fieldD13_0 : fieldD Tryd.prog 13 0 = some (0, 9) := by kernel_rfl
@[go_sem] theorem Tryd_fieldD13_1 : fieldD Tryd.prog 13 1 = some (1, 12) := by kernel_rfl
@[go_sem] theorem Tryd_structD13 : structD Tryd.prog 13 = some [(0, 9), (1, 12)] := by kernel_rfl
@[go_sem] theorem Tryd_eqG13 : eqG Tryd.prog 13 = true := by kernel_rfl
@[go_sem] theorem Tryd_tkind14 : tkind Tryd.prog 14 = some (true, 2) := by kernel_rfl
@[go_sem] theorem Tryd_concD14 : concD Tryd.prog 14 = true := by kernel_rfl
@[go_sem] theorem Tryd_zeroD14 : zeroD Tryd.prog 14 = some (.agg [(.str []), (.v (.int .u64 0))]) := by kernel_rfl
@[go_sem] theorem Tryd_infoD14 : (Tryd.prog.info? 14).map (fun i => (i.zero, i.size, i.bytes)) = some (some (.agg #[(.string ⟨#[]⟩), (.int .u64 0)]), 2, 24) := by kernel_rfl
@[go_sem] theorem Tryd_fieldD14_0 : fieldD Tryd.prog 14 0 = some (0, 9) := by kernel_rfl
@[go_sem] theorem Tryd_fieldD14_1 : fieldD Tryd.prog 14 1 = some (1, 12) := by kernel_rfl
@[go_sem] theorem Tryd_structD14 : structD Tryd.prog 14 = some [(0, 9), (1, 12)] := by kernel_rfl
@[go_sem] theorem Tryd_eqG14 : eqG Tryd.prog 14 = true := by kernel_rfl
@[go_sem] theorem Tryd_tkind15 : tkind Tryd.prog 15 = some (false, 1) := by kernel_rfl
@[go_sem] theorem Tryd_concD15 : concD Tryd.prog 15 = true := by kernel_rfl
@[go_sem] theorem Tryd_zeroD15 : zeroD Tryd.prog 15 = some (.v (.pointer none)) := by kernel_rfl
@[go_sem] theorem Tryd_infoD15 : (Tryd.prog.info? 15).map (fun i => (i.zero, i.size, i.bytes)) = some (some (.pointer none), 1, 8) := by kernel_rfl
@[go_sem] theorem Tryd_ptrI15 : ptrI Tryd.prog 15 = true := by kernel_rfl
@[go_sem] theorem Tryd_ptrD15 : ptrD Tryd.prog 15 = true := by kernel_rfl
@[go_sem] theorem Tryd_nf15 : nilFits Tryd.prog 15 (.pointer none) = true := by kernel_rfl
@[go_sem] theorem Tryd_tkind16 : tkind Tryd.prog 16 = some (false, 1) := by kernel_rfl
@[go_sem] theorem Tryd_concD16 : concD Tryd.prog 16 = true := by kernel_rfl
@[go_sem] theorem Tryd_zeroD16 : zeroD Tryd.prog 16 = some (.v (.pointer none)) := by kernel_rfl
@[go_sem] theorem Tryd_infoD16 : (Tryd.prog.info? 16).map (fun i => (i.zero, i.size, i.bytes)) = some (some (.pointer none), 1, 8) := by kernel_rfl
@[go_sem] theorem Tryd_ptrI16 : ptrI Tryd.prog 16 = true := by kernel_rfl
@[go_sem] theorem Tryd_ptrD16 : ptrD Tryd.prog 16 = true := by kernel_rfl
@[go_sem] theorem Tryd_nf16 : nilFits Tryd.prog 16 (.pointer none) = true := by kernel_rfl
@[go_sem] theorem Tryd_tkind17 : tkind Tryd.prog 17 = some (false, 1) := by kernel_rfl
@[go_sem] theorem Tryd_concD17 : concD Tryd.prog 17 = true := by kernel_rfl
@[go_sem] theorem Tryd_zeroD17 : zeroD Tryd.prog 17 = some (.v (.pointer none)) := by kernel_rfl
@[go_sem] theorem Tryd_infoD17 : (Tryd.prog.info? 17).map (fun i => (i.zero, i.size, i.bytes)) = some (some (.pointer none), 1, 8) := by kernel_rfl
@[go_sem] theorem Tryd_ptrI17 : ptrI Tryd.prog 17 = true := by kernel_rfl
@[go_sem] theorem Tryd_ptrD17 : ptrD Tryd.prog 17 = true := by kernel_rfl
@[go_sem] theorem Tryd_nf17 : nilFits Tryd.prog 17 (.pointer none) = true := by kernel_rfl
@[go_sem] theorem Tryd_tkind18 : tkind Tryd.prog 18 = some (true, 1) := by kernel_rfl
@[go_sem] theorem Tryd_concD18 : concD Tryd.prog 18 = true := by kernel_rfl
@[go_sem] theorem Tryd_zeroD18 : zeroD Tryd.prog 18 = some (.agg [(.v (.pointer none))]) := by kernel_rfl
@[go_sem] theorem Tryd_infoD18 : (Tryd.prog.info? 18).map (fun i => (i.zero, i.size, i.bytes)) = some (some (.agg #[(.pointer none)]), 1, 8) := by kernel_rfl
@[go_sem] theorem Tryd_fieldD18_0 : fieldD Tryd.prog 18 0 = some (0, 17) := by kernel_rfl
@[go_sem] theorem Tryd_structD18 : structD Tryd.prog 18 = some [(0, 17)] := by kernel_rfl
@[go_sem] theorem Tryd_tkind19 : tkind Tryd.prog 19 = some (true, 1) := by kernel_rfl
@[go_sem] theorem Tryd_concD19 : concD Tryd.prog 19 = true := by kernel_rfl
@[go_sem] theorem Tryd_zeroD19 : zeroD Tryd.prog 19 = some (.agg [(.v (.pointer none))]) := by kernel_rfl
@[go_sem] theorem Tryd_infoD19 : (Tryd.prog.info? 19).map (fun i => (i.zero, i.size, i.bytes)) = some (some (.agg #[(.pointer none)]), 1, 8) := by kernel_rfl
@[go_sem] theorem Tryd_fieldD19_0 : fieldD Tryd.prog 19 0 = some (0, 17) := by kernel_rfl
@[go_sem] theorem Tryd_structD19 : structD Tryd.prog 19 = some [(0, 17)] := by kernel_rfl
@[go_sem] theorem Tryd_tkind20 : tkind Tryd.prog 20 = some (false, 1) := by kernel_rfl
@[go_sem] theorem Tryd_zeroD20 : zeroD Tryd.prog 20 = some (.v .nilIface) := by kernel_rfl
@[go_sem] theorem Tryd_infoD20 : (Tryd.prog.info? 20).map (fun i => (i.zero, i.size, i.bytes)) = some (some .nilIface, 1, 16) := by kernel_rfl
@[go_sem] theorem Tryd_eifD20 : eifD Tryd.prog 20 = true := by kernel_rfl
@[go_sem] theorem Tryd_isfD20 : isfD Tryd.prog 20 = true := by kernel_rfl
@[go_sem] theorem Tryd_nf20 : nilFits Tryd.prog 20 .nilIface = true := by kernel_rfl
@[go_sem] theorem Tryd_tkind21 : tkind Tryd.prog 21 = some (false, 1) := by kernel_rfl
@[go_sem] theorem Tryd_concD21 : concD Tryd.prog 21 = true := by kernel_rfl
@[go_sem] theorem Tryd_zeroD21 : zeroD Tryd.prog 21 = some (.v (.int .i32 0)) := by kernel_rfl
@[go_sem] theorem Tryd_infoD21 : (Tryd.prog.info? 21).map (fun i => (i.zero, i.size, i.bytes)) = some (some (.int .i32 0), 1, 4) := by kernel_rfl
@[go_sem] theorem Tryd_intD21 : intD Tryd.prog 21 = some .i32 := by kernel_rfl
@[go_sem] theorem Tryd_und21 : (Tryd.prog.underlying 21).isSome = true := by kernel_rfl
@[go_sem] theorem Tryd_shapeD21 : shapeD Tryd.prog 8 21 = some [.int .i32] := by kernel_rfl
@[go_sem] theorem Tryd_eqG21 : eqG Tryd.prog 21 = true := by kernel_rfl
@[go_sem] theorem Tryd_tkind22 : tkind Tryd.prog 22 = some (false, 1) := by kernel_rfl
@[go_sem] theorem Tryd_concD22 : concD Tryd.prog 22 = true := by kernel_rfl
@[go_sem] theorem Tryd_zeroD22 : zeroD Tryd.prog 22 = some (.v .nilFunc) := by kernel_rfl
@[go_sem] theorem Tryd_infoD22 : (Tryd.prog.info? 22).map (fun i => (i.zero, i.size, i.bytes)) = some (some .nilFunc, 1, 8) := by kernel_rfl
@[go_sem] theorem Tryd_funcD22 : funcD Tryd.prog 22 = true := by kernel_rfl
@[go_sem] theorem Tryd_nf22 : nilFits Tryd.prog 22 .nilFunc = true := by kernel_rfl
@[go_sem] theorem Tryd_tkind23 : tkind Tryd.prog 23 = some (false, 1) := by kernel_rfl
@[go_sem] theorem Tryd_concD23 : concD Tryd.prog 23 = true := by kernel_rfl
@[go_sem] theorem Tryd_zeroD23 : zeroD Tryd.prog 23 = some (.v (.slice none 0 0)) := by kernel_rfl
@[go_sem] theorem Tryd_infoD23 : (Tryd.prog.info? 23).map (fun i => (i.zero, i.size, i.bytes)) = some (some (.slice none 0 0), 1, 24) := by kernel_rfl
@[go_sem] theorem Tryd_sliceD23 : sliceD Tryd.prog 23 = some 80 := by kernel_rfl
@[go_sem] theorem Tryd_arrD23 : arrD Tryd.prog 23 = none := by kernel_rfl
@[go_sem] theorem Tryd_nf23 : nilFits Tryd.prog 23 (.slice none 0 0) = true := by kernel_rfl
@[go_sem] theorem Tryd_tkind24 : tkind Tryd.prog 24 = some (false, 1) := by kernel_rfl
@[go_sem] theorem Tryd_concD24 : concD Tryd.prog 24 = true := by kernel_rfl
@[go_sem] theorem Tryd_zeroD24 : zeroD Tryd.prog 24 = some (.v (.slice none 0 0)) := by kernel_rfl
@[go_sem] theorem Tryd_infoD24 : (Tryd.prog.info? 24).map (fun i => (i.zero, i.size, i.bytes)) = some (some (.slice none 0 0), 1, 24) := by kernel_rfl
@[go_sem] theorem Tryd_sliceD24 : sliceD Tryd.prog 24 = some 26 := by kernel_rfl
@[go_sem] theorem Tryd_arrD24 : arrD Tryd.prog 24 = none := by kernel_rfl
@[go_sem] theorem Tryd_nf24 : nilFits Tryd.prog 24 (.slice none 0 0) = true := by kernel_rfl
@[go_sem] theorem Tryd_tkind25 : tkind Tryd.prog 25 = some (true, 5) := by kernel_rfl
@[go_sem] theorem Tryd_concD25 : concD Tryd.prog 25 = true := by kernel_rfl
@[go_sem] theorem Tryd_zeroD25 : zeroD Tryd.prog 25 = some (.agg [(.v (.int .i64 0)), (.v (.int .i64 0)), (.str []), (.v (.slice none 0 0)), (.v (.slice none 0 0))]) := by kernel_rfl
@[go_sem] theorem Tryd_infoD25 : (Tryd.prog.info? 25).map (fun i => (i.zero, i.size, i.bytes)) = some (some (.agg #[(.int .i64 0), (.int .i64 0), (.string ⟨#[]⟩), (.slice none 0 0), (.slice none 0 0)]), 5, 80) := by kernel_rfl
@[go_sem] theorem Tryd_fieldD25_0 : fieldD Tryd.prog 25 0 = some (0, 3) := by kernel_rfl
@[go_sem] theorem Tryd_fieldD25_1 : fieldD Tryd.prog 25 1 = some (1, 3) := by kernel_rfl
@[go_sem] theorem Tryd_fieldD25_2 : fieldD Tryd.prog 25 2 = some (2, 9) := by kernel_rfl
@[go_sem] theorem Tryd_fieldD25_3 : fieldD Tryd.prog 25 3 = some (3, 23) := by kernel_rfl
@[go_sem] theorem Tryd_fieldD25_4 : fieldD Tryd.prog 25 4 = some (4, 24) := by kernel_rfl
@[go_sem] theorem Tryd_structD25 : structD Tryd.prog 25 = some [(0, 3), (1, 3), (2, 9), (3, 23), (4, 24)] := by kernel_rfl
@[go_sem] theorem Tryd_tkind26 : tkind Tryd.prog 26 = some (true, 5) := by kernel_rfl
@[go_sem] theorem Tryd_concD26 : concD Tryd.prog 26 = true := by kernel_rfl
@[go_sem] theorem Tryd_zeroD26 : zeroD Tryd.prog 26 = some (.agg [(.v (.int .i64 0)), (.v (.int .i64 0)), (.str []), (.v (.slice none 0 0)), (.v (.slice none 0 0))]) := by kernel_rfl
@[go_sem] theorem Tryd_infoD26 : (Tryd.prog.info? 26).map (fun i => (i.zero, i.size, i.bytes)) = some (some (.agg #[(.int .i64 0), (.int .i64 0), (.string ⟨#[]⟩), (.slice none 0 0), (.slice none 0 0)]), 5, 80) := by kernel_rfl
@[go_sem] theorem Tryd_fieldD26_0 : fieldD Tryd.prog 26 0 = some (0, 3) := by kernel_rfl
@[go_sem] theorem Tryd_fieldD26_1 : fieldD Tryd.prog 26 1 = some (1, 3) := by kernel_rfl
@[go_sem] theorem Tryd_fieldD26_2 : fieldD Tryd.prog 26 2 = some (2, 9) := by kernel_rfl
@[go_sem] theorem Tryd_fieldD26_3 : fieldD Tryd.prog 26 3 = some (3, 23) := by kernel_rfl
@[go_sem] theorem Tryd_fieldD26_4 : fieldD Tryd.prog 26 4 = some (4, 24) := by kernel_rfl
@[go_sem] theorem Tryd_structD26 : structD Tryd.prog 26 = some [(0, 3), (1, 3), (2, 9), (3, 23), (4, 24)] := by kernel_rfl
@[go_sem] theorem Tryd_tkind27 : tkind Tryd.prog 27 = some (false, 1) := by kernel_rfl
@[go_sem] theorem Tryd_concD27 : concD Tryd.prog 27 = true := by kernel_rfl
@[go_sem] theorem Tryd_zeroD27 : zeroD Tryd.prog 27 = some (.v (.int .i64 0)) := by kernel_rfl
@[go_sem] theorem Tryd_infoD27 : (Tryd.prog.info? 27).map (fun i => (i.zero, i.size, i.bytes)) = some (some (.int .i64 0), 1, 8) := by kernel_rfl
@[go_sem] theorem Tryd_intD27 : intD Tryd.prog 27 = some .i64 := by kernel_rfl
@[go_sem] theorem Tryd_und27 : (Tryd.prog.underlying 27).isSome = true := by kernel_rfl
@[go_sem] theorem Tryd_shapeD27 : shapeD Tryd.prog 8 27 = some [.int .i64] := by kernel_rfl
@[go_sem] theorem Tryd_eqG27 : eqG Tryd.prog 27 = true := by kernel_rfl
@[go_sem] theorem Tryd_tkind29 : tkind Tryd.prog 29 = some (false, 1) := by kernel_rfl
@[go_sem] theorem Tryd_concD29 : concD Tryd.prog 29 = true := by kernel_rfl
@[go_sem] theorem Tryd_zeroD29 : zeroD Tryd.prog 29 = some (.v .nilFunc) := by kernel_rfl
@[go_sem] theorem Tryd_infoD29 : (Tryd.prog.info? 29).map (fun i => (i.zero, i.size, i.bytes)) = some (some .nilFunc, 1, 8) := by kernel_rfl
@[go_sem] theorem Tryd_funcD29 : funcD Tryd.prog 29 = true := by kernel_rfl
@[go_sem] theorem Tryd_nf29 : nilFits Tryd.prog 29 .nilFunc = true := by kernel_rfl
@[go_sem] theorem Tryd_tkind30 : tkind Tryd.prog 30 = some (false, 1) := by kernel_rfl
@[go_sem] theorem Tryd_concD30 : concD Tryd.prog 30 = true := by kernel_rfl
@[go_sem] theorem Tryd_zeroD30 : zeroD Tryd.prog 30 = some (.v .nilFunc) := by kernel_rfl
@[go_sem] theorem Tryd_infoD30 : (Tryd.prog.info? 30).map (fun i => (i.zero, i.size, i.bytes)) = some (some .nilFunc, 1, 8) := by kernel_rfl
@[go_sem] theorem Tryd_funcD30 : funcD Tryd.prog 30 = true := by kernel_rfl
@[go_sem] theorem Tryd_nf30 : nilFits Tryd.prog 30 .nilFunc = true := by kernel_rfl
@[go_sem] theorem Tryd_tkind31 : tkind Tryd.prog 31 = some (false, 1) := by kernel_rfl
@[go_sem] theorem Tryd_concD31 : concD Tryd.prog 31 = true := by kernel_rfl
@[go_sem] theorem Tryd_zeroD31 : zeroD Tryd.prog 31 = some (.v (.slice none 0 0)) := by kernel_rfl
@[go_sem] theorem Tryd_infoD31 : (Tryd.prog.info? 31).map (fun i => (i.zero, i.size, i.bytes)) = some (some (.slice none 0 0), 1, 24) := by kernel_rfl
@[go_sem] theorem Tryd_sliceD31 : sliceD Tryd.prog 31 = some 35 := by kernel_rfl
@[go_sem] theorem Tryd_arrD31 : arrD Tryd.prog 31 = none := by kernel_rfl
@[go_sem] theorem Tryd_nf31 : nilFits Tryd.prog 31 (.slice none 0 0) = true := by kernel_rfl
@[go_sem] theorem Tryd_tkind33 : tkind Tryd.prog 33 = some (false, 1) := by kernel_rfl
@[go_sem] theorem Tryd_concD33 : concD Tryd.prog 33 = true := by kernel_rfl
@[go_sem] theorem Tryd_zeroD33 : zeroD Tryd.prog 33 = some (.v .nilFunc) := by kernel_rfl
@[go_sem] theorem Tryd_infoD33 : (Tryd.prog.info? 33).map (fun i => (i.zero, i.size, i.bytes)) = some (some .nilFunc, 1, 8) := by kernel_rfl
@[go_sem] theorem Tryd_funcD33 : funcD Tryd.prog 33 = true := by kernel_rfl
@[go_sem] theorem Tryd_nf33 : nilFits Tryd.prog 33 .nilFunc = true := by kernel_rfl
@[go_sem] theorem Tryd_tkind34 : tkind Tryd.prog 34 = some (true, 6) := by kernel_rfl
@[go_sem] theorem Tryd_concD34 : concD Tryd.prog 34 = true := by kernel_rfl
@[go_sem] theorem Tryd_zeroD34 : zeroD Tryd.prog 34 = some (.agg [(.v (.int .i64 0)), (.v (.int .i64 0)), (.v (.int .i64 0)), (.str []), (.v (.slice none 0 0)), (.v (.slice none 0 0))]) := by kernel_rfl
@[go_sem] theorem Tryd_infoD34 : (Tryd.prog.info? 34).map (fun i => (i.zero, i.size, i.bytes)) = some (some (.agg #[(.int .i64 0), (.int .i64 0), (.int .i64 0), (.string ⟨#[]⟩), (.slice none 0 0), (.slice none 0 0)]), 6, 88) := by kernel_rfl
@[go_sem] theorem Tryd_fieldD34_0 : fieldD Tryd.prog 34 0 = some (0, 3) := by kernel_rfl
@[go_sem] theorem Tryd_fieldD34_1 : fieldD Tryd.prog 34 1 = some (1, 26) := by kernel_rfl
@[go_sem] theorem Tryd_structD34 : structD Tryd.prog 34 = some [(0, 3), (1, 26)] := by kernel_rfl
@[go_sem] theorem Tryd_tkind35 : tkind Tryd.prog 35 = some (true, 6) := by kernel_rfl
@[go_sem] theorem Tryd_concD35 : concD Tryd.prog 35 = true := by kernel_rfl
@[go_sem] theorem Tryd_zeroD35 : zeroD Tryd.prog 35 = some (.agg [(.v (.int .i64 0)), (.v (.int .i64 0)), (.v (.int .i64 0)), (.str []), (.v (.slice none 0 0)), (.v (.slice none 0 0))]) := by kernel_rfl
@[go_sem] theorem Tryd_infoD35 : (Tryd.prog.info? 35).map (fun i => (i.zero, i.size, i.bytes)) = some (some (.agg #[(.int .i64 0), (.int .i64 0), (.int .i64 0), (.string ⟨#[]⟩), (.slice none 0 0), (.slice none 0 0)]), 6, 88) := by kernel_rfl
@[go_sem] theorem Tryd_fieldD35_0 : fieldD Tryd.prog 35 0 = some (0, 3) := by kernel_rfl
@[go_sem] theorem Tryd_fieldD35_1 : fieldD Tryd.prog 35 1 = some (1, 26) := by kernel_rfl
@[go_sem] theorem Tryd_structD35 : structD Tryd.prog 35 = some [(0, 3), (1, 26)] := by kernel_rfl
@[go_sem] theorem Tryd_tkind36 : tkind Tryd.prog 36 = some (false, 1) := by kernel_rfl
@[go_sem] theorem Tryd_concD36 : concD Tryd.prog 36 = true := by kernel_rfl
@[go_sem] theorem Tryd_zeroD36 : zeroD Tryd.prog 36 = some (.v .nilFunc) := by kernel_rfl
@[go_sem] theorem Tryd_infoD36 : (Tryd.prog.info? 36).map (fun i => (i.zero, i.size, i.bytes)) = some (some .nilFunc, 1, 8) := by kernel_rfl
@[go_sem] theorem Tryd_funcD36 : funcD Tryd.prog 36 = true := by kernel_rfl
@[go_sem] theorem Tryd_nf36 : nilFits Tryd.prog 36 .nilFunc = true := by kernel_rfl
@[go_sem] theorem Tryd_tkind37 : tkind Tryd.prog 37 = some (false, 1) := by kernel_rfl
@[go_sem] theorem Tryd_concD37 : concD Tryd.prog 37 = true := by kernel_rfl
@[go_sem] theorem Tryd_zeroD37 : zeroD Tryd.prog 37 = some (.v .nilFunc) := by kernel_rfl
@[go_sem] theorem Tryd_infoD37 : (Tryd.prog.info? 37).map (fun i => (i.zero, i.size, i.bytes)) = some (some .nilFunc, 1, 8) := by kernel_rfl
@[go_sem] theorem Tryd_funcD37 : funcD Tryd.prog 37 = true := by kernel_rfl
@[go_sem] theorem Tryd_nf37 : nilFits Tryd.prog 37 .nilFunc = true := by kernel_rfl
@[go_sem] theorem Tryd_tkind38 : tkind Tryd.prog 38 = some (false, 1) := by kernel_rfl
@[go_sem] theorem Tryd_concD38 : concD Tryd.prog 38 = true := by kernel_rfl
@[go_sem] theorem Tryd_zeroD38 : zeroD Tryd.prog 38 = some (.v (.pointer none)) := by kernel_rfl
@[go_sem] theorem Tryd_infoD38 : (Tryd.prog.info? 38).map (fun i => (i.zero, i.size, i.bytes)) = some (some (.pointer none), 1, 8) := by kernel_rfl
@[go_sem] theorem Tryd_ptrI38 : ptrI Tryd.prog 38 = true := by kernel_rfl
@[go_sem] theorem Tryd_ptrD38 : ptrD Tryd.prog 38 = true := by kernel_rfl
@[go_sem] theorem Tryd_nf38 : nilFits Tryd.prog 38 (.pointer none) = true := by kernel_rfl
@[go_sem] theorem Tryd_tkind39 : tkind Tryd.prog 39 = some (false, 1) := by kernel_rfl
@[go_sem] theorem Tryd_concD39 : concD Tryd.prog 39 = true := by kernel_rfl
@[go_sem] theorem Tryd_zeroD39 : zeroD Tryd.prog 39 = some (.v .nilFunc) := by kernel_rfl
@[go_sem] theorem Tryd_infoD39 : (Tryd.prog.info? 39).map (fun i => (i.zero, i.size, i.bytes)) = some (some .nilFunc, 1, 8) := by kernel_rfl
@[go_sem] theorem Tryd_funcD39 : funcD Tryd.prog 39 = true := by kernel_rfl
@[go_sem] theorem Tryd_nf39 : nilFits Tryd.prog 39 .nilFunc = true := by kernel_rfl
@[go_sem] theorem Tryd_tkind40 : tkind Tryd.prog 40 = some (false, 1) := by kernel_rfl
@[go_sem] theorem Tryd_concD40 : concD Tryd.prog 40 = true := by kernel_rfl
@[go_sem] theorem Tryd_zeroD40 : zeroD Tryd.prog 40 = some (.v (.slice none 0 0)) := by kernel_rfl
@[go_sem] theorem Tryd_infoD40 : (Tryd.prog.info? 40).map (fun i => (i.zero, i.size, i.bytes)) = some (some (.slice none 0 0), 1, 24) := by kernel_rfl
@[go_sem] theorem Tryd_sliceD40 : sliceD Tryd.prog 40 = some 68 := by kernel_rfl
@[go_sem] theorem Tryd_arrD40 : arrD Tryd.prog 40 = none := by kernel_rfl
@[go_sem] theorem Tryd_nf40 : nilFits Tryd.prog 40 (.slice none 0 0) = true := by kernel_rfl
@[go_sem] theorem Tryd_tkind41 : tkind Tryd.prog 41 = some (true, 2) := by kernel_rfl
@[go_sem] theorem Tryd_concD41 : concD Tryd.prog 41 = true := by kernel_rfl
@[go_sem] theorem Tryd_zeroD41 : zeroD Tryd.prog 41 = some (.agg [(.v (.slice none 0 0)), (.v (.int .i64 0))]) := by kernel_rfl
@[go_sem] theorem Tryd_infoD41 : (Tryd.prog.info? 41).map (fun i => (i.zero, i.size, i.bytes)) = some (some (.agg #[(.slice none 0 0), (.int .i64 0)]), 2, 32) := by kernel_rfl
@[go_sem] theorem Tryd_fieldD41_0 : fieldD Tryd.prog 41 0 = some (0, 40) := by kernel_rfl
@[go_sem] theorem Tryd_fieldD41_1 : fieldD Tryd.prog 41 1 = some (1, 3) := by kernel_rfl
@[go_sem] theorem Tryd_structD41 : structD Tryd.prog 41 = some [(0, 40), (1, 3)] := by kernel_rfl
@[go_sem] theorem Tryd_tkind42 : tkind Tryd.prog 42 = some (true, 2) := by kernel_rfl
@[go_sem] theorem Tryd_concD42 : concD Tryd.prog 42 = true := by kernel_rfl
@[go_sem] theorem Tryd_zeroD42 : zeroD Tryd.prog 42 = some (.agg [(.v (.slice none 0 0)), (.v (.int .i64 0))]) := by kernel_rfl
@[go_sem] theorem Tryd_infoD42 : (Tryd.prog.info? 42).map (fun i => (i.zero, i.size, i.bytes)) = some (some (.agg #[(.slice none 0 0), (.int .i64 0)]), 2, 32) := by kernel_rfl
@[go_sem] theorem Tryd_fieldD42_0 : fieldD Tryd.prog 42 0 = some (0, 40) := by kernel_rfl
@[go_sem] theorem Tryd_fieldD42_1 : fieldD Tryd.prog 42 1 = some (1, 3) := by kernel_rfl
@[go_sem] theorem Tryd_structD42 : structD Tryd.prog 42 = some [(0, 40), (1, 3)] := by kernel_rfl
@[go_sem] theorem Tryd_tkind43 : tkind Tryd.prog 43 = some (false, 1) := by kernel_rfl
@[go_sem] theorem Tryd_concD43 : concD Tryd.prog 43 = true := by kernel_rfl
@[go_sem] theorem Tryd_zeroD43 : zeroD Tryd.prog 43 = some (.v .nilFunc) := by kernel_rfl
@[go_sem] theorem Tryd_infoD43 : (Tryd.prog.info? 43).map (fun i => (i.zero, i.size, i.bytes)) = some (some .nilFunc, 1, 8) := by kernel_rfl
@[go_sem] theorem Tryd_funcD43 : funcD Tryd.prog 43 = true := by kernel_rfl
@[go_sem] theorem Tryd_nf43 : nilFits Tryd.prog 43 .nilFunc = true := by kernel_rfl
@[go_sem] theorem Tryd_tkind44 : tkind Tryd.prog 44 = some (false, 1) := by kernel_rfl
@[go_sem] theorem Tryd_concD44 : concD Tryd.prog 44 = true := by kernel_rfl
@[go_sem] theorem Tryd_zeroD44 : zeroD Tryd.prog 44 = some (.v .nilFunc) := by kernel_rfl
@[go_sem] theorem Tryd_infoD44 : (Tryd.prog.info? 44).map (fun i => (i.zero, i.size, i.bytes)) = some (some .nilFunc, 1, 8) := by kernel_rfl
@[go_sem] theorem Tryd_funcD44 : funcD Tryd.prog 44 = true := by kernel_rfl
@[go_sem] theorem Tryd_nf44 : nilFits Tryd.prog 44 .nilFunc = true := by kernel_rfl
@[go_sem] theorem Tryd_tkind45 : tkind Tryd.prog 45 = some (false, 1) := by kernel_rfl
@[go_sem] theorem Tryd_concD45 : concD Tryd.prog 45 = true := by kernel_rfl
@[go_sem] theorem Tryd_zeroD45 : zeroD Tryd.prog 45 = some (.v .nilFunc) := by kernel_rfl
@[go_sem] theorem Tryd_infoD45 : (Tryd.prog.info? 45).map (fun i => (i.zero, i.size, i.bytes)) = some (some .nilFunc, 1, 8) := by kernel_rfl
@[go_sem] theorem Tryd_funcD45 : funcD Tryd.prog 45 = true := by kernel_rfl
@[go_sem] theorem Tryd_nf45 : nilFits Tryd.prog 45 .nilFunc = true := by kernel_rfl
@[go_sem] theorem Tryd_tkind46 : tkind Tryd.prog 46 = some (false, 1) := by kernel_rfl
@[go_sem] theorem Tryd_concD46 : concD Tryd.prog 46 = true := by kernel_rfl
@[go_sem] theorem Tryd_zeroD46 : zeroD Tryd.prog 46 = some (.v (.pointer none)) := by kernel_rfl
@[go_sem] theorem Tryd_infoD46 : (Tryd.prog.info? 46).map (fun i => (i.zero, i.size, i.bytes)) = some (some (.pointer none), 1, 8) := by kernel_rfl
@[go_sem] theorem Tryd_ptrI46 : ptrI Tryd.prog 46 = true := by kernel_rfl
@[go_sem] theorem Tryd_ptrD46 : ptrD Tryd.prog 46 = true := by kernel_rfl
@[go_sem] theorem Tryd_nf46 : nilFits Tryd.prog 46 (.pointer none) = true := by kernel_rfl
@[go_sem] theorem Tryd_tkind47 : tkind Tryd.prog 47 = some (false, 1) := by kernel_rfl
@[go_sem] theorem Tryd_concD47 : concD Tryd.prog 47 = true := by kernel_rfl
@[go_sem] theorem Tryd_zeroD47 : zeroD Tryd.prog 47 = some (.v (.slice none 0 0)) := by kernel_rfl
@[go_sem] theorem Tryd_infoD47 : (Tryd.prog.info? 47).map (fun i => (i.zero, i.size, i.bytes)) = some (some (.slice none 0 0), 1, 24) := by kernel_rfl
@[go_sem] theorem Tryd_sliceD47 : sliceD Tryd.prog 47 = some 5 := by kernel_rfl
@[go_sem] theorem Tryd_arrD47 : arrD Tryd.prog 47 = none := by kernel_rfl
@[go_sem] theorem Tryd_nf47 : nilFits Tryd.prog 47 (.slice none 0 0) = true := by kernel_rfl
@[go_sem] theorem Tryd_tkind48 : tkind Tryd.prog 48 = some (true, 2) := by kernel_rfl
@[go_sem] theorem Tryd_concD48 : concD Tryd.prog 48 = true := by kernel_rfl
@[go_sem] theorem Tryd_zeroD48 : zeroD Tryd.prog 48 = some (.agg [(.v (.pointer none)), (.v (.slice none 0 0))]) := by kernel_rfl
@[go_sem] theorem Tryd_infoD48 : (Tryd.prog.info? 48).map (fun i => (i.zero, i.size, i.bytes)) = some (some (.agg #[(.pointer none), (.slice none 0 0)]), 2, 32) := by kernel_rfl
@[go_sem] theorem Tryd_fieldD48_0 : fieldD Tryd.prog 48 0 = some (0, 46) := by kernel_rfl
@[go_sem] theorem Tryd_fieldD48_1 : fieldD Tryd.prog 48 1 = some (1, 47) := by kernel_rfl
@[go_sem] theorem Tryd_structD48 : structD Tryd.prog 48 = some [(0, 46), (1, 47)] := by kernel_rfl
@[go_sem] theorem Tryd_tkind49 : tkind Tryd.prog 49 = some (true, 2) := by kernel_rfl
@[go_sem] theorem Tryd_concD49 : concD Tryd.prog 49 = true := by kernel_rfl
@[go_sem] theorem Tryd_zeroD49 : zeroD Tryd.prog 49 = some (.agg [(.v (.pointer none)), (.v (.slice none 0 0))]) := by kernel_rfl
@[go_sem] theorem Tryd_infoD49 : (Tryd.prog.info? 49).map (fun i => (i.zero, i.size, i.bytes)) = some (some (.agg #[(.pointer none), (.slice none 0 0)]), 2, 32) := by kernel_rfl
@[go_sem] theorem Tryd_fieldD49_0 : fieldD Tryd.prog 49 0 = some (0, 46) := by kernel_rfl
@[go_sem] theorem Tryd_fieldD49_1 : fieldD Tryd.prog 49 1 = some (1, 47) := by kernel_rfl
@[go_sem] theorem Tryd_structD49 : structD Tryd.prog 49 = some [(0, 46), (1, 47)] := by kernel_rfl
@[go_sem] theorem Tryd_tkind50 : tkind Tryd.prog 50 = some (true, 2) := by kernel_rfl
@[go_sem] theorem Tryd_concD50 : concD Tryd.prog 50 = true := by kernel_rfl
@[go_sem] theorem Tryd_zeroD50 : zeroD Tryd.prog 50 = some (.agg [(.v (.pointer none)), (.v (.slice none 0 0))]) := by kernel_rfl
@[go_sem] theorem Tryd_infoD50 : (Tryd.prog.info? 50).map (fun i => (i.zero, i.size, i.bytes)) = some (some (.agg #[(.pointer none), (.slice none 0 0)]), 2, 32) := by kernel_rfl
@[go_sem] theorem Tryd_fieldD50_0 : fieldD Tryd.prog 50 0 = some (0, 49) := by kernel_rfl
@[go_sem] theorem Tryd_structD50 : structD Tryd.prog 50 = some [(0, 49)] := by kernel_rfl
@[go_sem] theorem Tryd_tkind51 : tkind Tryd.prog 51 = some (true, 2) := by kernel_rfl
@[go_sem] theorem Tryd_concD51 : concD Tryd.prog 51 = true := by kernel_rfl
@[go_sem] theorem Tryd_zeroD51 : zeroD Tryd.prog 51 = some (.agg [(.v (.pointer none)), (.v (.slice none 0 0))]) := by kernel_rfl
@[go_sem] theorem Tryd_infoD51 : (Tryd.prog.info? 51).map (fun i => (i.zero, i.size, i.bytes)) = some (some (.agg #[(.pointer none), (.slice none 0 0)]), 2, 32) := by kernel_rfl
@[go_sem] theorem Tryd_fieldD51_0 : fieldD Tryd.prog 51 0 = some (0, 49) := by kernel_rfl
@[go_sem] theorem Tryd_structD51 : structD Tryd.prog 51 = some [(0, 49)] := by kernel_rfl
@[go_sem] theorem Tryd_tkind52 : tkind Tryd.prog 52 = some (false, 1) := by kernel_rfl
@[go_sem] theorem Tryd_concD52 : concD Tryd.prog 52 = true := by kernel_rfl
@[go_sem] theorem Tryd_zeroD52 : zeroD Tryd.prog 52 = some (.v .nilFunc) := by kernel_rfl
@[go_sem] theorem Tryd_infoD52 : (Tryd.prog.info? 52).map (fun i => (i.zero, i.size, i.bytes)) = some (some .nilFunc, 1, 8) := by kernel_rfl
@[go_sem] theorem Tryd_funcD52 : funcD Tryd.prog 52 = true := by kernel_rfl
@[go_sem] theorem Tryd_nf52 : nilFits Tryd.prog 52 .nilFunc = true := by kernel_rfl
@[go_sem] theorem Tryd_tkind53 : tkind Tryd.prog 53 = some (false, 1) := by kernel_rfl
@[go_sem] theorem Tryd_concD53 : concD Tryd.prog 53 = true := by kernel_rfl
@[go_sem] theorem Tryd_zeroD53 : zeroD Tryd.prog 53 = some (.v .nilFunc) := by kernel_rfl
@[go_sem] theorem Tryd_infoD53 : (Tryd.prog.info? 53).map (fun i => (i.zero, i.size, i.bytes)) = some (some .nilFunc, 1, 8) := by kernel_rfl
@[go_sem] theorem Tryd_funcD53 : funcD Tryd.prog 53 = true := by kernel_rfl
@[go_sem] theorem Tryd_nf53 : nilFits Tryd.prog 53 .nilFunc = true := by kernel_rfl
@[go_sem] theorem Tryd_tkind54 : tkind Tryd.prog 54 = some (false, 1) := by kernel_rfl
@[go_sem] theorem Tryd_concD54 : concD Tryd.prog 54 = true := by kernel_rfl
@[go_sem] theorem Tryd_zeroD54 : zeroD Tryd.prog 54 = some (.v .nilFunc) := by kernel_rfl
@[go_sem] theorem Tryd_infoD54 : (Tryd.prog.info? 54).map (fun i => (i.zero, i.size, i.bytes)) = some (some .nilFunc, 1, 8) := by kernel_rfl
@[go_sem] theorem Tryd_funcD54 : funcD Tryd.prog 54 = true := by kernel_rfl
@[go_sem] theorem Tryd_nf54 : nilFits Tryd.prog 54 .nilFunc = true := by kernel_rfl
@[go_sem] theorem Tryd_tkind55 : tkind Tryd.prog 55 = some (false, 1) := by kernel_rfl
@[go_sem] theorem Tryd_concD55 : concD Tryd.prog 55 = true := by kernel_rfl
@[go_sem] theorem Tryd_zeroD55 : zeroD Tryd.prog 55 = some (.v .nilFunc) := by kernel_rfl
@[go_sem] theorem Tryd_infoD55 : (Tryd.prog.info? 55).map (fun i => (i.zero, i.size, i.bytes)) = some (some .nilFunc, 1, 8) := by kernel_rfl
@[go_sem] theorem Tryd_funcD55 : funcD Tryd.prog 55 = true := by kernel_rfl
@[go_sem] theorem Tryd_nf55 : nilFits Tryd.prog 55 .nilFunc = true := by kernel_rfl
@[go_sem] theorem Tryd_tkind56 : tkind Tryd.prog 56 = some (false, 1) := by kernel_rfl
@[go_sem] theorem Tryd_concD56 : concD Tryd.prog 56 = true := by kernel_rfl
@[go_sem] theorem Tryd_zeroD56 : zeroD Tryd.prog 56 = some (.v .nilFunc) := by kernel_rfl
@[go_sem] theorem Tryd_infoD56 : (Tryd.prog.info? 56).map (fun i => (i.zero, i.size, i.bytes)) = some (some .nilFunc, 1, 8) := by kernel_rfl
@[go_sem] theorem Tryd_funcD56 : funcD Tryd.prog 56 = true := by kernel_rfl
@[go_sem] theorem Tryd_nf56 : nilFits Tryd.prog 56 .nilFunc = true := by kernel_rfl
@[go_sem] theorem Tryd_tkind58 : tkind Tryd.prog 58 = some (false, 1) := by kernel_rfl
@[go_sem] theorem Tryd_concD58 : concD Tryd.prog 58 = true := by kernel_rfl
@[go_sem] theorem Tryd_zeroD58 : zeroD Tryd.prog 58 = some (.v .nilFunc) := by kernel_rfl
@[go_sem] theorem Tryd_infoD58 : (Tryd.prog.info? 58).map (fun i => (i.zero, i.size, i.bytes)) = some (some .nilFunc, 1, 8) := by kernel_rfl
@[go_sem] theorem Tryd_funcD58 : funcD Tryd.prog 58 = true := by kernel_rfl
@[go_sem] theorem Tryd_nf58 : nilFits Tryd.prog 58 .nilFunc = true := by kernel_rfl
@[go_sem] theorem Tryd_tkind59 : tkind Tryd.prog 59 = some (true, 2) := by kernel_rfl
@[go_sem] theorem Tryd_concD59 : concD Tryd.prog 59 = true := by kernel_rfl
@[go_sem] theorem Tryd_zeroD59 : zeroD Tryd.prog 59 = some (.agg [(.v (.int .i64 0)), (.v (.int .i64 0))]) := by kernel_rfl
@[go_sem] theorem Tryd_infoD59 : (Tryd.prog.info? 59).map (fun i => (i.zero, i.size, i.bytes)) = some (some (.agg #[(.int .i64 0), (.int .i64 0)]), 2, 16) := by kernel_rfl
@[go_sem] theorem Tryd_fieldD59_0 : fieldD Tryd.prog 59 0 = some (0, 3) := by kernel_rfl
@[go_sem] theorem Tryd_fieldD59_1 : fieldD Tryd.prog 59 1 = some (1, 27) := by kernel_rfl
@[go_sem] theorem Tryd_structD59 : structD Tryd.prog 59 = some [(0, 3), (1, 27)] := by kernel_rfl
@[go_sem] theorem Tryd_shapeD59 : shapeD Tryd.prog 8 59 = some [.int .i64, .int .i64] := by kernel_rfl
@[go_sem] theorem Tryd_eqG59 : eqG Tryd.prog 59 = true := by kernel_rfl
@[go_sem] theorem Tryd_tkind60 : tkind Tryd.prog 60 = some (true, 2) := by kernel_rfl
@[go_sem] theorem Tryd_concD60 : concD Tryd.prog 60 = true := by kernel_rfl
@[go_sem] theorem Tryd_zeroD60 : zeroD Tryd.prog 60 = some (.agg [(.v (.int .i64 0)), (.v (.int .i64 0))]) := by kernel_rfl
@[go_sem] theorem Tryd_infoD60 : (Tryd.prog.info? 60).map (fun i => (i.zero, i.size, i.bytes)) = some (some (.agg #[(.int .i64 0), (.int .i64 0)]), 2, 16) := by kernel_rfl
@[go_sem] theorem Tryd_fieldD60_0 : fieldD Tryd.prog 60 0 = some (0, 3) := by kernel_rfl
@[go_sem] theorem Tryd_fieldD60_1 : fieldD Tryd.prog 60 1 = some (1, 27) := by kernel_rfl
@[go_sem] theorem Tryd_structD60 : structD Tryd.prog 60 = some [(0, 3), (1, 27)] := by kernel_rfl
@[go_sem] theorem Tryd_shapeD60 : shapeD Tryd.prog 8 60 = some [.int .i64, .int .i64] := by kernel_rfl
@[go_sem] theorem Tryd_eqG60 : eqG Tryd.prog 60 = true := by kernel_rfl
@[go_sem] theorem Tryd_tkind62 : tkind Tryd.prog 62 = some (false, 1) := by kernel_rfl
@[go_sem] theorem Tryd_concD62 : concD Tryd.prog 62 = true := by kernel_rfl
@[go_sem] theorem Tryd_zeroD62 : zeroD Tryd.prog 62 = some (.v .nilFunc) := by kernel_rfl
@[go_sem] theorem Tryd_infoD62 : (Tryd.prog.info? 62).map (fun i => (i.zero, i.size, i.bytes)) = some (some .nilFunc, 1, 8) := by kernel_rfl
@[go_sem] theorem Tryd_funcD62 : funcD Tryd.prog 62 = true := by kernel_rfl
@[go_sem] theorem Tryd_nf62 : nilFits Tryd.prog 62 .nilFunc = true := by kernel_rfl
@[go_sem] theorem Tryd_tkind64 : tkind Tryd.prog 64 = some (false, 1) := by kernel_rfl
@[go_sem] theorem Tryd_concD64 : concD Tryd.prog 64 = true := by kernel_rfl
@[go_sem] theorem Tryd_zeroD64 : zeroD Tryd.prog 64 = some (.v .nilFunc) := by kernel_rfl
@[go_sem] theorem Tryd_infoD64 : (Tryd.prog.info? 64).map (fun i => (i.zero, i.size, i.bytes)) = some (some .nilFunc, 1, 8) := by kernel_rfl
@[go_sem] theorem Tryd_funcD64 : funcD Tryd.prog 64 = true := by kernel_rfl
@[go_sem] theorem Tryd_nf64 : nilFits Tryd.prog 64 .nilFunc = true := by kernel_rfl
@[go_sem] theorem Tryd_tkind65 : tkind Tryd.prog 65 = some (false, 1) := by kernel_rfl
@[go_sem] theorem Tryd_concD65 : concD Tryd.prog 65 = true := by kernel_rfl
@[go_sem] theorem Tryd_zeroD65 : zeroD Tryd.prog 65 = some (.v .nilFunc) := by kernel_rfl
@[go_sem] theorem Tryd_infoD65 : (Tryd.prog.info? 65).map (fun i => (i.zero, i.size, i.bytes)) = some (some .nilFunc, 1, 8) := by kernel_rfl
@[go_sem] theorem Tryd_funcD65 : funcD Tryd.prog 65 = true := by kernel_rfl
@[go_sem] theorem Tryd_nf65 : nilFits Tryd.prog 65 .nilFunc = true := by kernel_rfl
@[go_sem] theorem Tryd_tkind66 : tkind Tryd.prog 66 = some (false, 1) := by kernel_rfl
@[go_sem] theorem Tryd_concD66 : concD Tryd.prog 66 = true := by kernel_rfl
@[go_sem] theorem Tryd_zeroD66 : zeroD Tryd.prog 66 = some (.v .nilFunc) := by kernel_rfl
@[go_sem] theorem Tryd_infoD66 : (Tryd.prog.info? 66).map (fun i => (i.zero, i.size, i.bytes)) = some (some .nilFunc, 1, 8) := by kernel_rfl
@[go_sem] theorem Tryd_funcD66 : funcD Tryd.prog 66 = true := by kernel_rfl
@[go_sem] theorem Tryd_nf66 : nilFits Tryd.prog 66 .nilFunc = true := by kernel_rfl
@[go_sem] theorem Tryd_tkind67 : tkind Tryd.prog 67 = some (true, 4) := by kernel_rfl
@[go_sem] theorem Tryd_concD67 : concD Tryd.prog 67 = true := by kernel_rfl
@[go_sem] theorem Tryd_zeroD67 : zeroD Tryd.prog 67 = some (.agg [(.v (.int .i64 0)), (.v (.int .i64 0)), (.str []), (.v (.int .i64 0))]) := by kernel_rfl
@[go_sem] theorem Tryd_infoD67 : (Tryd.prog.info? 67).map (fun i => (i.zero, i.size, i.bytes)) = some (some (.agg #[(.int .i64 0), (.int .i64 0), (.string ⟨#[]⟩), (.int .i64 0)]), 4, 40) := by kernel_rfl
@[go_sem] theorem Tryd_fieldD67_0 : fieldD Tryd.prog 67 0 = some (0, 3) := by kernel_rfl
@[go_sem] theorem Tryd_fieldD67_1 : fieldD Tryd.prog 67 1 = some (1, 3) := by kernel_rfl
@[go_sem] theorem Tryd_fieldD67_2 : fieldD Tryd.prog 67 2 = some (2, 9) := by kernel_rfl
@[go_sem] theorem Tryd_fieldD67_3 : fieldD Tryd.prog 67 3 = some (3, 3) := by kernel_rfl
@[go_sem] theorem Tryd_structD67 : structD Tryd.prog 67 = some [(0, 3), (1, 3), (2, 9), (3, 3)] := by kernel_rfl
@[go_sem] theorem Tryd_shapeD67 : shapeD Tryd.prog 8 67 = some [.int .i64, .int .i64, .str, .int .i64] := by kernel_rfl
@[go_sem] theorem Tryd_eqG67 : eqG Tryd.prog 67 = true := by kernel_rfl
@[go_sem] theorem Tryd_tkind68 : tkind Tryd.prog 68 = some (true, 4) := by kernel_rfl
@[go_sem] theorem Tryd_concD68 : concD Tryd.prog 68 = true := by kernel_rfl
@[go_sem] theorem Tryd_zeroD68 : zeroD Tryd.prog 68 = some (.agg [(.v (.int .i64 0)), (.v (.int .i64 0)), (.str []), (.v (.int .i64 0))]) := by kernel_rfl
@[go_sem] theorem Tryd_infoD68 : (Tryd.prog.info? 68).map (fun i => (i.zero, i.size, i.bytes)) = some (some (.agg #[(.int .i64 0), (.int .i64 0), (.string ⟨#[]⟩), (.int .i64 0)]), 4, 40) := by kernel_rfl
@[go_sem] theorem Tryd_fieldD68_0 : fieldD Tryd.prog 68 0 = some (0, 3) := by kernel_rfl
@[go_sem] theorem Tryd_fieldD68_1 : fieldD Tryd.prog 68 1 = some (1, 3) := by kernel_rfl
@[go_sem] theorem Tryd_fieldD68_2 : fieldD Tryd.prog 68 2 = some (2, 9) := by kernel_rfl
@[go_sem] theorem Tryd_fieldD68_3 : fieldD Tryd.prog 68 3 = some (3, 3) := by kernel_rfl
@[go_sem] theorem Tryd_structD68 : structD Tryd.prog 68 = some [(0, 3), (1, 3), (2, 9), (3, 3)] := by kernel_rfl
@[go_sem] theorem Tryd_shapeD68 : shapeD Tryd.prog 8 68 = some [.int .i64, .int .i64, .str, .int .i64] := by kernel_rfl
@[go_sem] theorem Tryd_eqG68 : eqG Tryd.prog 68 = true := by kernel_rfl
@[go_sem] theorem Tryd_tkind69 : tkind Tryd.prog 69 = some (false, 1) := by kernel_rfl
@[go_sem] theorem Tryd_concD69 : concD Tryd.prog 69 = true := by kernel_rfl
@[go_sem] theorem Tryd_zeroD69 : zeroD Tryd.prog 69 = some (.v .nilFunc) := by kernel_rfl
@[go_sem] theorem Tryd_infoD69 : (Tryd.prog.info? 69).map (fun i => (i.zero, i.size, i.bytes)) = some (some .nilFunc, 1, 8) := by kernel_rfl
@[go_sem] theorem Tryd_funcD69 : funcD Tryd.prog 69 = true := by kernel_rfl
@[go_sem] theorem Tryd_nf69 : nilFits Tryd.prog 69 .nilFunc = true := by kernel_rfl
@[go_sem] theorem Tryd_tkind70 : tkind Tryd.prog 70 = some (false, 1) := by kernel_rfl
@[go_sem] theorem Tryd_concD70 : concD Tryd.prog 70 = true := by kernel_rfl
@[go_sem] theorem Tryd_zeroD70 : zeroD Tryd.prog 70 = some (.v .nilFunc) := by kernel_rfl
@[go_sem] theorem Tryd_infoD70 : (Tryd.prog.info? 70).map (fun i => (i.zero, i.size, i.bytes)) = some (some .nilFunc, 1, 8) := by kernel_rfl
@[go_sem] theorem Tryd_funcD70 : funcD Tryd.prog 70 = true := by kernel_rfl
@[go_sem] theorem Tryd_nf70 : nilFits Tryd.prog 70 .nilFunc = true := by kernel_rfl
@[go_sem] theorem Tryd_tkind71 : tkind Tryd.prog 71 = some (false, 1) := by kernel_rfl
@[go_sem] theorem Tryd_concD71 : concD Tryd.prog 71 = true := by kernel_rfl
@[go_sem] theorem Tryd_zeroD71 : zeroD Tryd.prog 71 = some (.v .nilFunc) := by kernel_rfl
@[go_sem] theorem Tryd_infoD71 : (Tryd.prog.info? 71).map (fun i => (i.zero, i.size, i.bytes)) = some (some .nilFunc, 1, 8) := by kernel_rfl
@[go_sem] theorem Tryd_funcD71 : funcD Tryd.prog 71 = true := by kernel_rfl
@[go_sem] theorem Tryd_nf71 : nilFits Tryd.prog 71 .nilFunc = true := by kernel_rfl
@[go_sem] theorem Tryd_tkind72 : tkind Tryd.prog 72 = some (false, 1) := by kernel_rfl
@[go_sem] theorem Tryd_concD72 : concD Tryd.prog 72 = true := by kernel_rfl
@[go_sem] theorem Tryd_zeroD72 : zeroD Tryd.prog 72 = some (.v .nilFunc) := by kernel_rfl
@[go_sem] theorem Tryd_infoD72 : (Tryd.prog.info? 72).map (fun i => (i.zero, i.size, i.bytes)) = some (some .nilFunc, 1, 8) := by kernel_rfl
@[go_sem] theorem Tryd_funcD72 : funcD Tryd.prog 72 = true := by kernel_rfl
@[go_sem] theorem Tryd_nf72 : nilFits Tryd.prog 72 .nilFunc = true := by kernel_rfl
@[go_sem] theorem Tryd_tkind73 : tkind Tryd.prog 73 = some (false, 1) := by kernel_rfl
@[go_sem] theorem Tryd_concD73 : concD Tryd.prog 73 = true := by kernel_rfl
@[go_sem] theorem Tryd_zeroD73 : zeroD Tryd.prog 73 = some (.v (.pointer none)) := by kernel_rfl
@[go_sem] theorem Tryd_infoD73 : (Tryd.prog.info? 73).map (fun i => (i.zero, i.size, i.bytes)) = some (some (.pointer none), 1, 8) := by kernel_rfl
@[go_sem] theorem Tryd_ptrI73 : ptrI Tryd.prog 73 = true := by kernel_rfl
@[go_sem] theorem Tryd_ptrD73 : ptrD Tryd.prog 73 = true := by kernel_rfl
@[go_sem] theorem Tryd_nf73 : nilFits Tryd.prog 73 (.pointer none) = true := by kernel_rfl
@[go_sem] theorem Tryd_tkind74 : tkind Tryd.prog 74 = some (false, 1) := by kernel_rfl
@[go_sem] theorem Tryd_concD74 : concD Tryd.prog 74 = true := by kernel_rfl
@[go_sem] theorem Tryd_zeroD74 : zeroD Tryd.prog 74 = some (.v (.slice none 0 0)) := by kernel_rfl
@[go_sem] theorem Tryd_infoD74 : (Tryd.prog.info? 74).map (fun i => (i.zero, i.size, i.bytes)) = some (some (.slice none 0 0), 1, 24) := by kernel_rfl
@[go_sem] theorem Tryd_sliceD74 : sliceD Tryd.prog 74 = some 9 := by kernel_rfl
@[go_sem] theorem Tryd_arrD74 : arrD Tryd.prog 74 = none := by kernel_rfl
@[go_sem] theorem Tryd_nf74 : nilFits Tryd.prog 74 (.slice none 0 0) = true := by kernel_rfl
@[go_sem] theorem Tryd_tkind75 : tkind Tryd.prog 75 = some (false, 1) := by kernel_rfl
@[go_sem] theorem Tryd_zeroD75 : zeroD Tryd.prog 75 = some (.v .nilIface) := by kernel_rfl
@[go_sem] theorem Tryd_infoD75 : (Tryd.prog.info? 75).map (fun i => (i.zero, i.size, i.bytes)) = some (some .nilIface, 1, 16) := by kernel_rfl
@[go_sem] theorem Tryd_isfD75 : isfD Tryd.prog 75 = true := by kernel_rfl
@[go_sem] theorem Tryd_nf75 : nilFits Tryd.prog 75 .nilIface = true := by kernel_rfl
@[go_sem] theorem Tryd_tkind76 : tkind Tryd.prog 76 = some (false, 1) := by kernel_rfl
@[go_sem] theorem Tryd_zeroD76 : zeroD Tryd.prog 76 = some (.v .nilIface) := by kernel_rfl
@[go_sem] theorem Tryd_infoD76 : (Tryd.prog.info? 76).map (fun i => (i.zero, i.size, i.bytes)) = some (some .nilIface, 1, 16) := by kernel_rfl
@[go_sem] theorem Tryd_isfD76 : isfD Tryd.prog 76 = true := by kernel_rfl
@[go_sem] theorem Tryd_nf76 : nilFits Tryd.prog 76 .nilIface = true := by kernel_rfl
@[go_sem] theorem Tryd_tkind78 : tkind Tryd.prog 78 = some (false, 1) := by kernel_rfl
@[go_sem] theorem Tryd_concD78 : concD Tryd.prog 78 = true := by kernel_rfl
@[go_sem] theorem Tryd_zeroD78 : zeroD Tryd.prog 78 = some (.v .nilFunc) := by kernel_rfl
@[go_sem] theorem Tryd_infoD78 : (Tryd.prog.info? 78).map (fun i => (i.zero, i.size, i.bytes)) = some (some .nilFunc, 1, 8) := by kernel_rfl
@[go_sem] theorem Tryd_funcD78 : funcD Tryd.prog 78 = true := by kernel_rfl
@[go_sem] theorem Tryd_nf78 : nilFits Tryd.prog 78 .nilFunc = true := by kernel_rfl
@[go_sem] theorem Tryd_tkind79 : tkind Tryd.prog 79 = some (true, 3) := by kernel_rfl
@[go_sem] theorem Tryd_concD79 : concD Tryd.prog 79 = true := by kernel_rfl
@[go_sem] theorem Tryd_zeroD79 : zeroD Tryd.prog 79 = some (.agg [(.str []), (.v (.int .u8 0)), (.v (.int .i64 0))]) := by kernel_rfl
@[go_sem] theorem Tryd_infoD79 : (Tryd.prog.info? 79).map (fun i => (i.zero, i.size, i.bytes)) = some (some (.agg #[(.string ⟨#[]⟩), (.int .u8 0), (.int .i64 0)]), 3, 32) := by kernel_rfl
@[go_sem] theorem Tryd_fieldD79_0 : fieldD Tryd.prog 79 0 = some (0, 9) := by kernel_rfl
@[go_sem] theorem Tryd_fieldD79_1 : fieldD Tryd.prog 79 1 = some (1, 5) := by kernel_rfl
@[go_sem] theorem Tryd_fieldD79_2 : fieldD Tryd.prog 79 2 = some (2, 3) := by kernel_rfl
@[go_sem] theorem Tryd_structD79 : structD Tryd.prog 79 = some [(0, 9), (1, 5), (2, 3)] := by kernel_rfl
@[go_sem] theorem Tryd_shapeD79 : shapeD Tryd.prog 8 79 = some [.str, .int .u8, .int .i64] := by kernel_rfl
@[go_sem] theorem Tryd_eqG79 : eqG Tryd.prog 79 = true := by kernel_rfl
@[go_sem] theorem Tryd_tkind80 : tkind Tryd.prog 80 = some (true, 3) := by kernel_rfl
@[go_sem] theorem Tryd_concD80 : concD Tryd.prog 80 = true := by kernel_rfl
@[go_sem] theorem Tryd_zeroD80 : zeroD Tryd.prog 80 = some (.agg [(.str []), (.v (.int .u8 0)), (.v (.int .i64 0))]) := by kernel_rfl
@[go_sem] theorem Tryd_infoD80 : (Tryd.prog.info? 80).map (fun i => (i.zero, i.size, i.bytes)) = some (some (.agg #[(.string ⟨#[]⟩), (.int .u8 0), (.int .i64 0)]), 3, 32) := by kernel_rfl
@[go_sem] theorem Tryd_fieldD80_0 : fieldD Tryd.prog 80 0 = some (0, 9) := by kernel_rfl
@[go_sem] theorem Tryd_fieldD80_1 : fieldD Tryd.prog 80 1 = some (1, 5) := by kernel_rfl
@[go_sem] theorem Tryd_fieldD80_2 : fieldD Tryd.prog 80 2 = some (2, 3) := by kernel_rfl
@[go_sem] theorem Tryd_structD80 : structD Tryd.prog 80 = some [(0, 9), (1, 5), (2, 3)] := by kernel_rfl
@[go_sem] theorem Tryd_shapeD80 : shapeD Tryd.prog 8 80 = some [.str, .int .u8, .int .i64] := by kernel_rfl
@[go_sem] theorem Tryd_eqG80 : eqG Tryd.prog 80 = true := by kernel_rfl
@[go_sem] theorem Tryd_tkind81 : tkind Tryd.prog 81 = some (true, 2) := by kernel_rfl
@[go_sem] theorem Tryd_concD81 : concD Tryd.prog 81 = true := by kernel_rfl
@[go_sem] theorem Tryd_zeroD81 : zeroD Tryd.prog 81 = some (.agg [(.str []), (.str [])]) := by kernel_rfl
@[go_sem] theorem Tryd_infoD81 : (Tryd.prog.info? 81).map (fun i => (i.zero, i.size, i.bytes)) = some (some (.agg #[(.string ⟨#[]⟩), (.string ⟨#[]⟩)]), 2, 32) := by kernel_rfl
@[go_sem] theorem Tryd_arrD81 : arrD Tryd.prog 81 = some (2, 9) := by kernel_rfl
@[go_sem] theorem Tryd_structD81 : structD Tryd.prog 81 = none := by kernel_rfl
@[go_sem] theorem Tryd_tkind82 : tkind Tryd.prog 82 = some (false, 1) := by kernel_rfl
@[go_sem] theorem Tryd_concD82 : concD Tryd.prog 82 = true := by kernel_rfl
@[go_sem] theorem Tryd_zeroD82 : zeroD Tryd.prog 82 = some (.v .nilFunc) := by kernel_rfl
@[go_sem] theorem Tryd_infoD82 : (Tryd.prog.info? 82).map (fun i => (i.zero, i.size, i.bytes)) = some (some .nilFunc, 1, 8) := by kernel_rfl
@[go_sem] theorem Tryd_funcD82 : funcD Tryd.prog 82 = true := by kernel_rfl
@[go_sem] theorem Tryd_nf82 : nilFits Tryd.prog 82 .nilFunc = true := by kernel_rfl
@[go_sem] theorem Tryd_tkind83 : tkind Tryd.prog 83 = some (false, 1) := by kernel_rfl
@[go_sem] theorem Tryd_concD83 : concD Tryd.prog 83 = true := by kernel_rfl
@[go_sem] theorem Tryd_zeroD83 : zeroD Tryd.prog 83 = some (.v .nilFunc) := by kernel_rfl
@[go_sem] theorem Tryd_infoD83 : (Tryd.prog.info? 83).map (fun i => (i.zero, i.size, i.bytes)) = some (some .nilFunc, 1, 8) := by kernel_rfl
@[go_sem] theorem Tryd_funcD83 : funcD Tryd.prog 83 = true := by kernel_rfl
@[go_sem] theorem Tryd_nf83 : nilFits Tryd.prog 83 .nilFunc = true := by kernel_rfl
@[go_sem] theorem Tryd_tkind84 : tkind Tryd.prog 84 = some (false, 1) := by kernel_rfl
@[go_sem] theorem Tryd_concD84 : concD Tryd.prog 84 = true := by kernel_rfl
@[go_sem] theorem Tryd_zeroD84 : zeroD Tryd.prog 84 = some (.v (.pointer none)) := by kernel_rfl
@[go_sem] theorem Tryd_infoD84 : (Tryd.prog.info? 84).map (fun i => (i.zero, i.size, i.bytes)) = some (some (.pointer none), 1, 8) := by kernel_rfl
@[go_sem] theorem Tryd_ptrI84 : ptrI Tryd.prog 84 = true := by kernel_rfl
@[go_sem] theorem Tryd_ptrD84 : ptrD Tryd.prog 84 = true := by kernel_rfl
@[go_sem] theorem Tryd_nf84 : nilFits Tryd.prog 84 (.pointer none) = true := by kernel_rfl
@[go_sem] theorem Tryd_tkind85 : tkind Tryd.prog 85 = some (false, 1) := by kernel_rfl
@[go_sem] theorem Tryd_concD85 : concD Tryd.prog 85 = true := by kernel_rfl
@[go_sem] theorem Tryd_zeroD85 : zeroD Tryd.prog 85 = some (.v .nilFunc) := by kernel_rfl
@[go_sem] theorem Tryd_infoD85 : (Tryd.prog.info? 85).map (fun i => (i.zero, i.size, i.bytes)) = some (some .nilFunc, 1, 8) := by kernel_rfl
@[go_sem] theorem Tryd_funcD85 : funcD Tryd.prog 85 = true := by kernel_rfl
@[go_sem] theorem Tryd_nf85 : nilFits Tryd.prog 85 .nilFunc = true := by kernel_rfl
@[go_sem] theorem Tryd_tkind86 : tkind Tryd.prog 86 = some (false, 1) := by kernel_rfl
@[go_sem] theorem Tryd_concD86 : concD Tryd.prog 86 = true := by kernel_rfl
@[go_sem] theorem Tryd_zeroD86 : zeroD Tryd.prog 86 = some (.v .nilFunc) := by kernel_rfl
@[go_sem] theorem Tryd_infoD86 : (Tryd.prog.info? 86).map (fun i => (i.zero, i.size, i.bytes)) = some (some .nilFunc, 1, 8) := by kernel_rfl
@[go_sem] theorem Tryd_funcD86 : funcD Tryd.prog 86 = true := by kernel_rfl
@[go_sem] theorem Tryd_nf86 : nilFits Tryd.prog 86 .nilFunc = true := by kernel_rfl
@[go_sem] theorem Tryd_tkind87 : tkind Tryd.prog 87 = some (false, 1) := by kernel_rfl
@[go_sem] theorem Tryd_concD87 : concD Tryd.prog 87 = true := by kernel_rfl
@[go_sem] theorem Tryd_zeroD87 : zeroD Tryd.prog 87 = some (.v .nilFunc) := by kernel_rfl
@[go_sem] theorem Tryd_infoD87 : (Tryd.prog.info? 87).map (fun i => (i.zero, i.size, i.bytes)) = some (some .nilFunc, 1, 8) := by kernel_rfl
@[go_sem] theorem Tryd_funcD87 : funcD Tryd.prog 87 = true := by kernel_rfl
@[go_sem] theorem Tryd_nf87 : nilFits Tryd.prog 87 .nilFunc = true := by kernel_rfl
@[go_sem] theorem Tryd_tkind88 : tkind Tryd.prog 88 = some (false, 1) := by kernel_rfl
@[go_sem] theorem Tryd_concD88 : concD Tryd.prog 88 = true := by kernel_rfl
@[go_sem] theorem Tryd_zeroD88 : zeroD Tryd.prog 88 = some (.v .nilFunc) := by kernel_rfl
@[go_sem] theorem Tryd_infoD88 : (Tryd.prog.info? 88).map (fun i => (i.zero, i.size, i.bytes)) = some (some .nilFunc, 1, 8) := by kernel_rfl
@[go_sem] theorem Tryd_funcD88 : funcD Tryd.prog 88 = true := by kernel_rfl
@[go_sem] theorem Tryd_nf88 : nilFits Tryd.prog 88 .nilFunc = true := by kernel_rfl
@[go_sem] theorem Tryd_tkind89 : tkind Tryd.prog 89 = some (false, 1) := by kernel_rfl
@[go_sem] theorem Tryd_concD89 : concD Tryd.prog 89 = true := by kernel_rfl
@[go_sem] theorem Tryd_zeroD89 : zeroD Tryd.prog 89 = some (.v .nilFunc) := by kernel_rfl
@[go_sem] theorem Tryd_infoD89 : (Tryd.prog.info? 89).map (fun i => (i.zero, i.size, i.bytes)) = some (some .nilFunc, 1, 8) := by kernel_rfl
@[go_sem] theorem Tryd_funcD89 : funcD Tryd.prog 89 = true := by kernel_rfl
@[go_sem] theorem Tryd_nf89 : nilFits Tryd.prog 89 .nilFunc = true := by kernel_rfl
@[go_sem] theorem Tryd_tkind90 : tkind Tryd.prog 90 = some (false, 1) := by kernel_rfl
@[go_sem] theorem Tryd_concD90 : concD Tryd.prog 90 = true := by kernel_rfl
@[go_sem] theorem Tryd_zeroD90 : zeroD Tryd.prog 90 = some (.v .nilFunc) := by kernel_rfl
@[go_sem] theorem Tryd_infoD90 : (Tryd.prog.info? 90).map (fun i => (i.zero, i.size, i.bytes)) = some (some .nilFunc, 1, 8) := by kernel_rfl
@[go_sem] theorem Tryd_funcD90 : funcD Tryd.prog 90 = true := by kernel_rfl
@[go_sem] theorem Tryd_nf90 : nilFits Tryd.prog 90 .nilFunc = true := by kernel_rfl
@[go_sem] theorem Tryd_tkind91 : tkind Tryd.prog 91 = some (false, 1) := by kernel_rfl
@[go_sem] theorem Tryd_concD91 : concD Tryd.prog 91 = true := by kernel_rfl
@[go_sem] theorem Tryd_zeroD91 : zeroD Tryd.prog 91 = some (.v .nilFunc) := by kernel_rfl
@[go_sem] theorem Tryd_infoD91 : (Tryd.prog.info? 91).map (fun i => (i.zero, i.size, i.bytes)) = some (some .nilFunc, 1, 8) := by kernel_rfl
@[go_sem] theorem Tryd_funcD91 : funcD Tryd.prog 91 = true := by kernel_rfl
@[go_sem] theorem Tryd_nf91 : nilFits Tryd.prog 91 .nilFunc = true := by kernel_rfl
@[go_sem] theorem Tryd_tkind92 : tkind Tryd.prog 92 = some (false, 1) := by kernel_rfl
@[go_sem] theorem Tryd_concD92 : concD Tryd.prog 92 = true := by kernel_rfl
@[go_sem] theorem Tryd_zeroD92 : zeroD Tryd.prog 92 = some (.v .nilFunc) := by kernel_rfl
@[go_sem] theorem Tryd_infoD92 : (Tryd.prog.info? 92).map (fun i => (i.zero, i.size, i.bytes)) = some (some .nilFunc, 1, 8) := by kernel_rfl
@[go_sem] theorem Tryd_funcD92 : funcD Tryd.prog 92 = true := by kernel_rfl
@[go_sem] theorem Tryd_nf92 : nilFits Tryd.prog 92 .nilFunc = true := by kernel_rfl
@[go_sem] theorem Tryd_tkind93 : tkind Tryd.prog 93 = some (false, 1) := by kernel_rfl
@[go_sem] theorem Tryd_concD93 : concD Tryd.prog 93 = true := by kernel_rfl
@[go_sem] theorem Tryd_zeroD93 : zeroD Tryd.prog 93 = some (.v .nilFunc) := by kernel_rfl
@[go_sem] theorem Tryd_infoD93 : (Tryd.prog.info? 93).map (fun i => (i.zero, i.size, i.bytes)) = some (some .nilFunc, 1, 8) := by kernel_rfl
@[go_sem] theorem Tryd_funcD93 : funcD Tryd.prog 93 = true := by kernel_rfl
@[go_sem] theorem Tryd_nf93 : nilFits Tryd.prog 93 .nilFunc = true := by kernel_rfl
@[go_sem] theorem Tryd_tkind94 : tkind Tryd.prog 94 = some (false, 1) := by kernel_rfl
@[go_sem] theorem Tryd_concD94 : concD Tryd.prog 94 = true := by kernel_rfl
@[go_sem] theorem Tryd_zeroD94 : zeroD Tryd.prog 94 = some (.v .nilFunc) := by kernel_rfl
@[go_sem] theorem Tryd_infoD94 : (Tryd.prog.info? 94).map (fun i => (i.zero, i.size, i.bytes)) = some (some .nilFunc, 1, 8) := by kernel_rfl
@[go_sem] theorem Tryd_funcD94 : funcD Tryd.prog 94 = true := by kernel_rfl
@[go_sem] theorem Tryd_nf94 : nilFits Tryd.prog 94 .nilFunc = true := by kernel_rfl
@[go_sem] theorem Tryd_tkind95 : tkind Tryd.prog 95 = some (false, 1) := by kernel_rfl
@[go_sem] theorem Tryd_concD95 : concD Tryd.prog 95 = true := by kernel_rfl
@[go_sem] theorem Tryd_zeroD95 : zeroD Tryd.prog 95 = some (.v .nilFunc) := by kernel_rfl
@[go_sem] theorem Tryd_infoD95 : (Tryd.prog.info? 95).map (fun i => (i.zero, i.size, i.bytes)) = some (some .nilFunc, 1, 8) := by kernel_rfl
@[go_sem] theorem Tryd_funcD95 : funcD Tryd.prog 95 = true := by kernel_rfl
@[go_sem] theorem Tryd_nf95 : nilFits Tryd.prog 95 .nilFunc = true := by kernel_rfl
@[go_sem] theorem Tryd_tkind96 : tkind Tryd.prog 96 = some (false, 1) := by kernel_rfl
@[go_sem] theorem Tryd_concD96 : concD Tryd.prog 96 = true := by kernel_rfl
@[go_sem] theorem Tryd_zeroD96 : zeroD Tryd.prog 96 = some (.v .nilFunc) := by kernel_rfl
@[go_sem] theorem Tryd_infoD96 : (Tryd.prog.info? 96).map (fun i => (i.zero, i.size, i.bytes)) = some (some .nilFunc, 1, 8) := by kernel_rfl
@[go_sem] theorem Tryd_funcD96 : funcD Tryd.prog 96 = true := by kernel_rfl
@[go_sem] theorem Tryd_nf96 : nilFits Tryd.prog 96 .nilFunc = true := by kernel_rfl
@[go_sem] theorem Tryd_tkind97 : tkind Tryd.prog 97 = some (false, 1) := by kernel_rfl
@[go_sem] theorem Tryd_concD97 : concD Tryd.prog 97 = true := by kernel_rfl
@[go_sem] theorem Tryd_zeroD97 : zeroD Tryd.prog 97 = some (.v .nilFunc) := by kernel_rfl
@[go_sem] theorem Tryd_infoD97 : (Tryd.prog.info? 97).map (fun i => (i.zero, i.size, i.bytes)) = some (some .nilFunc, 1, 8) := by kernel_rfl
@[go_sem] theorem Tryd_funcD97 : funcD Tryd.prog 97 = true := by kernel_rfl
@[go_sem] theorem Tryd_nf97 : nilFits Tryd.prog 97 .nilFunc = true := by kernel_rfl
@[go_sem] theorem Tryd_tkind99 : tkind Tryd.prog 99 = some (false, 1) := by kernel_rfl
@[go_sem] theorem Tryd_concD99 : concD Tryd.prog 99 = true := by kernel_rfl
@[go_sem] theorem Tryd_zeroD99 : zeroD Tryd.prog 99 = some (.v .nilFunc) := by kernel_rfl
@[go_sem] theorem Tryd_infoD99 : (Tryd.prog.info? 99).map (fun i => (i.zero, i.size, i.bytes)) = some (some .nilFunc, 1, 8) := by kernel_rfl
@[go_sem] theorem Tryd_funcD99 : funcD Tryd.prog 99 = true := by kernel_rfl
@[go_sem] theorem Tryd_nf99 : nilFits Tryd.prog 99 .nilFunc = true := by kernel_rfl
@[go_sem] theorem Tryd_tkind100 : tkind Tryd.prog 100 = some (false, 1) := by kernel_rfl
@[go_sem] theorem Tryd_concD100 : concD Tryd.prog 100 = true := by kernel_rfl
@[go_sem] theorem Tryd_zeroD100 : zeroD Tryd.prog 100 = some (.v .nilFunc) := by kernel_rfl
@[go_sem] theorem Tryd_infoD100 : (Tryd.prog.info? 100).map (fun i => (i.zero, i.size, i.bytes)) = some (some .nilFunc, 1, 8) := by kernel_rfl
@[go_sem] theorem Tryd_funcD100 : funcD Tryd.prog 100 = true := by kernel_rfl
@[go_sem] theorem Tryd_nf100 : nilFits Tryd.prog 100 .nilFunc = true := by kernel_rfl
@[go_sem] theorem Tryd_tkind101 : tkind Tryd.prog 101 = some (false, 1) := by kernel_rfl
@[go_sem] theorem Tryd_concD101 : concD Tryd.prog 101 = true := by kernel_rfl
@[go_sem] theorem Tryd_zeroD101 : zeroD Tryd.prog 101 = some (.v .nilFunc) := by kernel_rfl
@[go_sem] theorem Tryd_infoD101 : (Tryd.prog.info? 101).map (fun i => (i.zero, i.size, i.bytes)) = some (some .nilFunc, 1, 8) := by kernel_rfl
@[go_sem] theorem Tryd_funcD101 : funcD Tryd.prog 101 = true := by kernel_rfl
@[go_sem] theorem Tryd_nf101 : nilFits Tryd.prog 101 .nilFunc = true := by kernel_rfl
@[go_sem] theorem Tryd_tkind102 : tkind Tryd.prog 102 = some (false, 1) := by kernel_rfl
@[go_sem] theorem Tryd_concD102 : concD Tryd.prog 102 = true := by kernel_rfl
@[go_sem] theorem Tryd_zeroD102 : zeroD Tryd.prog 102 = some (.v .nilFunc) := by kernel_rfl
@[go_sem] theorem Tryd_infoD102 : (Tryd.prog.info? 102).map (fun i => (i.zero, i.size, i.bytes)) = some (some .nilFunc, 1, 8) := by kernel_rfl
@[go_sem] theorem Tryd_funcD102 : funcD Tryd.prog 102 = true := by kernel_rfl
@[go_sem] theorem Tryd_nf102 : nilFits Tryd.prog 102 .nilFunc = true := by kernel_rfl
@[go_sem] theorem Tryd_tkind103 : tkind Tryd.prog 103 = some (false, 1) := by kernel_rfl
@[go_sem] theorem Tryd_concD103 : concD Tryd.prog 103 = true := by kernel_rfl
@[go_sem] theorem Tryd_zeroD103 : zeroD Tryd.prog 103 = some (.v .nilFunc) := by kernel_rfl
@[go_sem] theorem Tryd_infoD103 : (Tryd.prog.info? 103).map (fun i => (i.zero, i.size, i.bytes)) = some (some .nilFunc, 1, 8) := by kernel_rfl
@[go_sem] theorem Tryd_funcD103 : funcD Tryd.prog 103 = true := by kernel_rfl
@[go_sem] theorem Tryd_nf103 : nilFits Tryd.prog 103 .nilFunc = true := by kernel_rfl
@[go_sem] theorem Tryd_tkind104 : tkind Tryd.prog 104 = some (false, 1) := by kernel_rfl
@[go_sem] theorem Tryd_concD104 : concD Tryd.prog 104 = true := by kernel_rfl
@[go_sem] theorem Tryd_zeroD104 : zeroD Tryd.prog 104 = some (.v (.pointer none)) := by kernel_rfl
@[go_sem] theorem Tryd_infoD104 : (Tryd.prog.info? 104).map (fun i => (i.zero, i.size, i.bytes)) = some (some (.pointer none), 1, 8) := by kernel_rfl
@[go_sem] theorem Tryd_tkind105 : tkind Tryd.prog 105 = some (false, 1) := by kernel_rfl
@[go_sem] theorem Tryd_concD105 : concD Tryd.prog 105 = true := by kernel_rfl
@[go_sem] theorem Tryd_zeroD105 : zeroD Tryd.prog 105 = some (.v .nilFunc) := by kernel_rfl
@[go_sem] theorem Tryd_infoD105 : (Tryd.prog.info? 105).map (fun i => (i.zero, i.size, i.bytes)) = some (some .nilFunc, 1, 8) := by kernel_rfl
@[go_sem] theorem Tryd_funcD105 : funcD Tryd.prog 105 = true := by kernel_rfl
@[go_sem] theorem Tryd_nf105 : nilFits Tryd.prog 105 .nilFunc = true := by kernel_rfl
@[go_sem] theorem Tryd_tkind106 : tkind Tryd.prog 106 = some (true, 24) := by kernel_rfl
@[go_sem] theorem Tryd_concD106 : concD Tryd.prog 106 = true := by kernel_rfl
@[go_sem] theorem Tryd_zeroD106 : zeroD Tryd.prog 106 = some (.agg [(.v (.int .u8 0)), (.v (.int .u8 0)), (.v (.int .u8 0)), (.v (.int .u8 0)), (.v (.int .u8 0)), (.v (.int .u8 0)), (.v (.int .u8 0)), (.v (.int .u8 0)), (.v (.int .u8 0)), (.v (.int .u8 0)), (.v (.int .u8 0)), (.v (.int .u8 0)), (.v (.int .u8 0)), (.v (.int .u8 0)), (.v (.int .u8 0)), (.v (.int .u8 0)), (.v (.int .u8 0)), (.v (.int .u8 0)), (.v (.int .u8 0)), (.v (.int .u8 0)), (.v (.int .u8 0)), (.v (.int .u8 0)), (.v (.int .u8 0)), (.v (.int .u8 0))]) := by kernel_rfl
@[go_sem] theorem Tryd_infoD106 : (Tryd.prog.info? 106).map (fun i => (i.zero, i.size, i.bytes)) = some (some (.agg #[(.int .u8 0), (.int .u8 0), (.int .u8 0), (.int .u8 0), (.int .u8 0), (.int .u8 0), (.int .u8 0), (.int .u8 0), (.int .u8 0), (.int .u8 0), (.int .u8 0), (.int .u8 0), (.int .u8 0), (.int .u8 0), (.int .u8 0), (.int .u8 0), (.int .u8 0), (.int .u8 0), (.int .u8 0), (.int .u8 0), (.int .u8 0), (.int .u8 0), (.int .u8 0), (.int .u8 0)]), 24, 24) := by kernel_rfl
@[go_sem] theorem Tryd_arrD106 : arrD Tryd.prog 106 = some (24, 5) := by kernel_rfl
@[go_sem] theorem Tryd_structD106 : structD Tryd.prog 106 = none := by kernel_rfl
@[go_sem] theorem Tryd_tkind107 : tkind Tryd.prog 107 = some (false, 1) := by kernel_rfl
@[go_sem] theorem Tryd_concD107 : concD Tryd.prog 107 = true := by kernel_rfl
@[go_sem] theorem Tryd_zeroD107 : zeroD Tryd.prog 107 = some (.v (.int .u64 0)) := by kernel_rfl
@[go_sem] theorem Tryd_infoD107 : (Tryd.prog.info? 107).map (fun i => (i.zero, i.size, i.bytes)) = some (some (.int .u64 0), 1, 8) := by kernel_rfl
@[go_sem] theorem Tryd_intD107 : intD Tryd.prog 107 = some .u64 := by kernel_rfl
@[go_sem] theorem Tryd_und107 : (Tryd.prog.underlying 107).isSome = true := by kernel_rfl
@[go_sem] theorem Tryd_shapeD107 : shapeD Tryd.prog 8 107 = some [.int .u64] := by kernel_rfl
@[go_sem] theorem Tryd_eqG107 : eqG Tryd.prog 107 = true := by kernel_rfl
@[go_sem] theorem Tryd_tkind108 : tkind Tryd.prog 108 = some (false, 1) := by kernel_rfl
@[go_sem] theorem Tryd_concD108 : concD Tryd.prog 108 = true := by kernel_rfl
@[go_sem] theorem Tryd_zeroD108 : zeroD Tryd.prog 108 = some (.v .nilFunc) := by kernel_rfl
@[go_sem] theorem Tryd_infoD108 : (Tryd.prog.info? 108).map (fun i => (i.zero, i.size, i.bytes)) = some (some .nilFunc, 1, 8) := by kernel_rfl
@[go_sem] theorem Tryd_funcD108 : funcD Tryd.prog 108 = true := by kernel_rfl
@[go_sem] theorem Tryd_nf108 : nilFits Tryd.prog 108 .nilFunc = true := by kernel_rfl
@[go_sem] theorem Tryd_tkind109 : tkind Tryd.prog 109 = some (false, 1) := by kernel_rfl
@[go_sem] theorem Tryd_concD109 : concD Tryd.prog 109 = true := by kernel_rfl
@[go_sem] theorem Tryd_zeroD109 : zeroD Tryd.prog 109 = some (.v .nilFunc) := by kernel_rfl
@[go_sem] theorem Tryd_infoD109 : (Tryd.prog.info? 109).map (fun i => (i.zero, i.size, i.bytes)) = some (some .nilFunc, 1, 8) := by kernel_rfl
@[go_sem] theorem Tryd_funcD109 : funcD Tryd.prog 109 = true := by kernel_rfl
@[go_sem] theorem Tryd_nf109 : nilFits Tryd.prog 109 .nilFunc = true := by kernel_rfl
@[go_sem] theorem Tryd_tkind111 : tkind Tryd.prog 111 = some (false, 1) := by kernel_rfl
@[go_sem] theorem Tryd_concD111 : concD Tryd.prog 111 = true := by kernel_rfl
@[go_sem] theorem Tryd_zeroD111 : zeroD Tryd.prog 111 = some (.v .nilFunc) := by kernel_rfl
@[go_sem] theorem Tryd_infoD111 : (Tryd.prog.info? 111).map (fun i => (i.zero, i.size, i.bytes)) = some (some .nilFunc, 1, 8) := by kernel_rfl
@[go_sem] theorem Tryd_funcD111 : funcD Tryd.prog 111 = true := by kernel_rfl
@[go_sem] theorem Tryd_nf111 : nilFits Tryd.prog 111 .nilFunc = true := by kernel_rfl
@[go_sem] theorem Tryd_tkind112 : tkind Tryd.prog 112 = some (false, 1) := by kernel_rfl
@[go_sem] theorem Tryd_concD112 : concD Tryd.prog 112 = true := by kernel_rfl
@[go_sem] theorem Tryd_zeroD112 : zeroD Tryd.prog 112 = some (.v .nilFunc) := by kernel_rfl
@[go_sem] theorem Tryd_infoD112 : (Tryd.prog.info? 112).map (fun i => (i.zero, i.size, i.bytes)) = some (some .nilFunc, 1, 8) := by kernel_rfl
@[go_sem] theorem Tryd_funcD112 : funcD Tryd.prog 112 = true := by kernel_rfl
@[go_sem] theorem Tryd_nf112 : nilFits Tryd.prog 112 .nilFunc = true := by kernel_rfl
@[go_sem] theorem Tryd_tkind113 : tkind Tryd.prog 113 = some (false, 1) := by kernel_rfl
@[go_sem] theorem Tryd_concD113 : concD Tryd.prog 113 = true := by kernel_rfl
@[go_sem] theorem Tryd_zeroD113 : zeroD Tryd.prog 113 = some (.v .nilFunc) := by kernel_rfl
@[go_sem] theorem Tryd_infoD113 : (Tryd.prog.info? 113).map (fun i => (i.zero, i.size, i.bytes)) = some (some .nilFunc, 1, 8) := by kernel_rfl
@[go_sem] theorem Tryd_funcD113 : funcD Tryd.prog 113 = true := by kernel_rfl
@[go_sem] theorem Tryd_nf113 : nilFits Tryd.prog 113 .nilFunc = true := by kernel_rfl
@[go_sem] theorem Tryd_tkind114 : tkind Tryd.prog 114 = some (false, 1) := by kernel_rfl
@[go_sem] theorem Tryd_concD114 : concD Tryd.prog 114 = true := by kernel_rfl
@[go_sem] theorem Tryd_zeroD114 : zeroD Tryd.prog 114 = some (.v .nilFunc) := by kernel_rfl
@[go_sem] theorem Tryd_infoD114 : (Tryd.prog.info? 114).map (fun i => (i.zero, i.size, i.bytes)) = some (some .nilFunc, 1, 8) := by kernel_rfl
@[go_sem] theorem Tryd_funcD114 : funcD Tryd.prog 114 = true := by kernel_rfl
@[go_sem] theorem Tryd_nf114 : nilFits Tryd.prog 114 .nilFunc = true := by kernel_rfl
@[go_sem] theorem Tryd_tkind115 : tkind Tryd.prog 115 = some (false, 1) := by kernel_rfl
@[go_sem] theorem Tryd_concD115 : concD Tryd.prog 115 = true := by kernel_rfl
@[go_sem] theorem Tryd_zeroD115 : zeroD Tryd.prog 115 = some (.v .nilFunc) := by kernel_rfl
@[go_sem] theorem Tryd_infoD115 : (Tryd.prog.info? 115).map (fun i => (i.zero, i.size, i.bytes)) = some (some .nilFunc, 1, 8) := by kernel_rfl
@[go_sem] theorem Tryd_funcD115 : funcD Tryd.prog 115 = true := by kernel_rfl
@[go_sem] theorem Tryd_nf115 : nilFits Tryd.prog 115 .nilFunc = true := by kernel_rfl
@[go_sem] theorem Tryd_tkind116 : tkind Tryd.prog 116 = some (false, 1) := by kernel_rfl
@[go_sem] theorem Tryd_concD116 : concD Tryd.prog 116 = true := by kernel_rfl
@[go_sem] theorem Tryd_zeroD116 : zeroD Tryd.prog 116 = some (.v .nilFunc) := by kernel_rfl
@[go_sem] theorem Tryd_infoD116 : (Tryd.prog.info? 116).map (fun i => (i.zero, i.size, i.bytes)) = some (some .nilFunc, 1, 8) := by kernel_rfl
@[go_sem] theorem Tryd_funcD116 : funcD Tryd.prog 116 = true := by kernel_rfl
@[go_sem] theorem Tryd_nf116 : nilFits Tryd.prog 116 .nilFunc = true := by kernel_rfl
@[go_sem] theorem Tryd_tkind117 : tkind Tryd.prog 117 = some (false, 1) := by kernel_rfl
@[go_sem] theorem Tryd_concD117 : concD Tryd.prog 117 = true := by kernel_rfl
@[go_sem] theorem Tryd_zeroD117 : zeroD Tryd.prog 117 = some (.v .nilFunc) := by kernel_rfl
@[go_sem] theorem Tryd_infoD117 : (Tryd.prog.info? 117).map (fun i => (i.zero, i.size, i.bytes)) = some (some .nilFunc, 1, 8) := by kernel_rfl
@[go_sem] theorem Tryd_funcD117 : funcD Tryd.prog 117 = true := by kernel_rfl
@[go_sem] theorem Tryd_nf117 : nilFits Tryd.prog 117 .nilFunc = true := by kernel_rfl
@[go_sem] theorem Tryd_tkind118 : tkind Tryd.prog 118 = some (true, 20) := by kernel_rfl
@[go_sem] theorem Tryd_concD118 : concD Tryd.prog 118 = true := by kernel_rfl
@[go_sem] theorem Tryd_zeroD118 : zeroD Tryd.prog 118 = some (.agg [(.v (.int .u64 0)), (.v (.int .u64 0)), (.v (.int .u64 0)), (.v (.int .u64 0)), (.v (.int .u64 0)), (.v (.int .u64 0)), (.v (.int .u64 0)), (.v (.int .u64 0)), (.v (.int .u64 0)), (.v (.int .u64 0)), (.v (.int .u64 0)), (.v (.int .u64 0)), (.v (.int .u64 0)), (.v (.int .u64 0)), (.v (.int .u64 0)), (.v (.int .u64 0)), (.v (.int .u64 0)), (.v (.int .u64 0)), (.v (.int .u64 0)), (.v (.int .u64 0))]) := by kernel_rfl
@[go_sem] theorem Tryd_infoD118 : (Tryd.prog.info? 118).map (fun i => (i.zero, i.size, i.bytes)) = some (some (.agg #[(.int .u64 0), (.int .u64 0), (.int .u64 0), (.int .u64 0), (.int .u64 0), (.int .u64 0), (.int .u64 0), (.int .u64 0), (.int .u64 0), (.int .u64 0), (.int .u64 0), (.int .u64 0), (.int .u64 0), (.int .u64 0), (.int .u64 0), (.int .u64 0), (.int .u64 0), (.int .u64 0), (.int .u64 0), (.int .u64 0)]), 20, 160) := by kernel_rfl
@[go_sem] theorem Tryd_arrD118 : arrD Tryd.prog 118 = some (20, 107) := by kernel_rfl
@[go_sem] theorem Tryd_structD118 : structD Tryd.prog 118 = none := by kernel_rfl
@[go_sem] theorem Tryd_tkind119 : tkind Tryd.prog 119 = some (false, 1) := by kernel_rfl
@[go_sem] theorem Tryd_concD119 : concD Tryd.prog 119 = true := by kernel_rfl
@[go_sem] theorem Tryd_zeroD119 : zeroD Tryd.prog 119 = some (.v (.int .u32 0)) := by kernel_rfl
@[go_sem] theorem Tryd_infoD119 : (Tryd.prog.info? 119).map (fun i => (i.zero, i.size, i.bytes)) = some (some (.int .u32 0), 1, 4) := by kernel_rfl
@[go_sem] theorem Tryd_intD119 : intD Tryd.prog 119 = some .u32 := by kernel_rfl
@[go_sem] theorem Tryd_und119 : (Tryd.prog.underlying 119).isSome = true := by kernel_rfl
@[go_sem] theorem Tryd_shapeD119 : shapeD Tryd.prog 8 119 = some [.int .u32] := by kernel_rfl
@[go_sem] theorem Tryd_eqG119 : eqG Tryd.prog 119 = true := by kernel_rfl
@[go_sem] theorem Tryd_tkind120 : tkind Tryd.prog 120 = some (true, 65) := by kernel_rfl
@[go_sem] theorem Tryd_concD120 : concD Tryd.prog 120 = true := by kernel_rfl
@[go_sem] theorem Tryd_arrD120 : arrD Tryd.prog 120 = some (65, 5) := by kernel_rfl
@[go_sem] theorem Tryd_structD120 : structD Tryd.prog 120 = none := by kernel_rfl
@[go_sem] theorem Tryd_tkind121 : tkind Tryd.prog 121 = some (false, 1) := by kernel_rfl
@[go_sem] theorem Tryd_concD121 : concD Tryd.prog 121 = true := by kernel_rfl
@[go_sem] theorem Tryd_zeroD121 : zeroD Tryd.prog 121 = some (.v (.int .u64 0)) := by kernel_rfl
@[go_sem] theorem Tryd_infoD121 : (Tryd.prog.info? 121).map (fun i => (i.zero, i.size, i.bytes)) = some (some (.int .u64 0), 1, 8) := by kernel_rfl
@[go_sem] theorem Tryd_intD121 : intD Tryd.prog 121 = some .u64 := by kernel_rfl
@[go_sem] theorem Tryd_und121 : (Tryd.prog.underlying 121).isSome = true := by kernel_rfl
@[go_sem] theorem Tryd_shapeD121 : shapeD Tryd.prog 8 121 = some [.int .u64] := by kernel_rfl
@[go_sem] theorem Tryd_eqG121 : eqG Tryd.prog 121 = true := by kernel_rfl
@[go_sem] theorem Tryd_tkind122 : tkind Tryd.prog 122 = some (false, 1) := by kernel_rfl
@[go_sem] theorem Tryd_concD122 : concD Tryd.prog 122 = true := by kernel_rfl
@[go_sem] theorem Tryd_zeroD122 : zeroD Tryd.prog 122 = some (.v .nilFunc) := by kernel_rfl
@[go_sem] theorem Tryd_infoD122 : (Tryd.prog.info? 122).map (fun i => (i.zero, i.size, i.bytes)) = some (some .nilFunc, 1, 8) := by kernel_rfl
@[go_sem] theorem Tryd_funcD122 : funcD Tryd.prog 122 = true := by kernel_rfl
@[go_sem] theorem Tryd_nf122 : nilFits Tryd.prog 122 .nilFunc = true := by kernel_rfl
@[go_sem] theorem Tryd_tkind123 : tkind Tryd.prog 123 = some (false, 1) := by kernel_rfl
@[go_sem] theorem Tryd_concD123 : concD Tryd.prog 123 = true := by kernel_rfl
@[go_sem] theorem Tryd_zeroD123 : zeroD Tryd.prog 123 = some (.v .nilFunc) := by kernel_rfl
@[go_sem] theorem Tryd_infoD123 : (Tryd.prog.info? 123).map (fun i => (i.zero, i.size, i.bytes)) = some (some .nilFunc, 1, 8) := by kernel_rfl
@[go_sem] theorem Tryd_funcD123 : funcD Tryd.prog 123 = true := by kernel_rfl
@[go_sem] theorem Tryd_nf123 : nilFits Tryd.prog 123 .nilFunc = true := by kernel_rfl
@[go_sem] theorem Tryd_tkind124 : tkind Tryd.prog 124 = some (false, 1) := by kernel_rfl
@[go_sem] theorem Tryd_concD124 : concD Tryd.prog 124 = true := by kernel_rfl
@[go_sem] theorem Tryd_zeroD124 : zeroD Tryd.prog 124 = some (.v .nilFunc) := by kernel_rfl
@[go_sem] theorem Tryd_infoD124 : (Tryd.prog.info? 124).map (fun i => (i.zero, i.size, i.bytes)) = some (some .nilFunc, 1, 8) := by kernel_rfl
@[go_sem] theorem Tryd_funcD124 : funcD Tryd.prog 124 = true := by kernel_rfl
@[go_sem] theorem Tryd_nf124 : nilFits Tryd.prog 124 .nilFunc = true := by kernel_rfl
@[go_sem] theorem Tryd_tkind125 : tkind Tryd.prog 125 = some (false, 1) := by kernel_rfl
@[go_sem] theorem Tryd_concD125 : concD Tryd.prog 125 = true := by kernel_rfl
@[go_sem] theorem Tryd_zeroD125 : zeroD Tryd.prog 125 = some (.v .nilFunc) := by kernel_rfl
@[go_sem] theorem Tryd_infoD125 : (Tryd.prog.info? 125).map (fun i => (i.zero, i.size, i.bytes)) = some (some .nilFunc, 1, 8) := by kernel_rfl
@[go_sem] theorem Tryd_funcD125 : funcD Tryd.prog 125 = true := by kernel_rfl
@[go_sem] theorem Tryd_nf125 : nilFits Tryd.prog 125 .nilFunc = true := by kernel_rfl
@[go_sem] theorem Tryd_tkind126 : tkind Tryd.prog 126 = some (true, 32) := by kernel_rfl
@[go_sem] theorem Tryd_concD126 : concD Tryd.prog 126 = true := by kernel_rfl
@[go_sem] theorem Tryd_zeroD126 : zeroD Tryd.prog 126 = some (.agg [(.v (.int .u8 0)), (.v (.int .u8 0)), (.v (.int .u8 0)), (.v (.int .u8 0)), (.v (.int .u8 0)), (.v (.int .u8 0)), (.v (.int .u8 0)), (.v (.int .u8 0)), (.v (.int .u8 0)), (.v (.int .u8 0)), (.v (.int .u8 0)), (.v (.int .u8 0)), (.v (.int .u8 0)), (.v (.int .u8 0)), (.v (.int .u8 0)), (.v (.int .u8 0)), (.v (.int .u8 0)), (.v (.int .u8 0)), (.v (.int .u8 0)), (.v (.int .u8 0)), (.v (.int .u8 0)), (.v (.int .u8 0)), (.v (.int .u8 0)), (.v (.int .u8 0)), (.v (.int .u8 0)), (.v (.int .u8 0)), (.v (.int .u8 0)), (.v (.int .u8 0)), (.v (.int .u8 0)), (.v (.int .u8 0)), (.v (.int .u8 0)), (.v (.int .u8 0))]) := by kernel_rfl
@[go_sem] theorem Tryd_infoD126 : (Tryd.prog.info? 126).map (fun i => (i.zero, i.size, i.bytes)) = some (some (.agg #[(.int .u8 0), (.int .u8 0), (.int .u8 0), (.int .u8 0), (.int .u8 0), (.int .u8 0), (.int .u8 0), (.int .u8 0), (.int .u8 0), (.int .u8 0), (.int .u8 0), (.int .u8 0), (.int .u8 0), (.int .u8 0), (.int .u8 0), (.int .u8 0), (.int .u8 0), (.int .u8 0), (.int .u8 0), (.int .u8 0), (.int .u8 0), (.int .u8 0), (.int .u8 0), (.int .u8 0), (.int .u8 0), (.int .u8 0), (.int .u8 0), (.int .u8 0), (.int .u8 0), (.int .u8 0), (.int .u8 0), (.int .u8 0)]), 32, 32) := by kernel_rfl
@[go_sem] theorem Tryd_arrD126 : arrD Tryd.prog 126 = some (32, 5) := by kernel_rfl
@[go_sem] theorem Tryd_structD126 : structD Tryd.prog 126 = none := by kernel_rfl
@[go_sem] theorem Tryd_tkind127 : tkind Tryd.prog 127 = some (true, 64) := by kernel_rfl
@[go_sem] theorem Tryd_concD127 : concD Tryd.prog 127 = true := by kernel_rfl
@[go_sem] theorem Tryd_zeroD127 : zeroD Tryd.prog 127 = some (.agg [(.v (.int .u8 0)), (.v (.int .u8 0)), (.v (.int .u8 0)), (.v (.int .u8 0)), (.v (.int .u8 0)), (.v (.int .u8 0)), (.v (.int .u8 0)), (.v (.int .u8 0)), (.v (.int .u8 0)), (.v (.int .u8 0)), (.v (.int .u8 0)), (.v (.int .u8 0)), (.v (.int .u8 0)), (.v (.int .u8 0)), (.v (.int .u8 0)), (.v (.int .u8 0)), (.v (.int .u8 0)), (.v (.int .u8 0)), (.v (.int .u8 0)), (.v (.int .u8 0)), (.v (.int .u8 0)), (.v (.int .u8 0)), (.v (.int .u8 0)), (.v (.int .u8 0)), (.v (.int .u8 0)), (.v (.int .u8 0)), (.v (.int .u8 0)), (.v (.int .u8 0)), (.v (.int .u8 0)), (.v (.int .u8 0)), (.v (.int .u8 0)), (.v (.int .u8 0)), (.v (.int .u8 0)), (.v (.int .u8 0)), (.v (.int .u8 0)), (.v (.int .u8 0)), (.v (.int .u8 0)), (.v (.int .u8 0)), (.v (.int .u8 0)), (.v (.int .u8 0)), (.v (.int .u8 0)), (.v (.int .u8 0)), (.v (.int .u8 0)), (.v (.int .u8 0)), (.v (.int .u8 0)), (.v (.int .u8 0)), (.v (.int .u8 0)), (.v (.int .u8 0)), (.v (.int .u8 0)), (.v (.int .u8 0)), (.v (.int .u8 0)), (.v (.int .u8 0)), (.v (.int .u8 0)), (.v (.int .u8 0)), (.v (.int .u8 0)), (.v (.int .u8 0)), (.v (.int .u8 0)), (.v (.int .u8 0)), (.v (.int .u8 0)), (.v (.int .u8 0)), (.v (.int .u8 0)), (.v (.int .u8 0)), (.v (.int .u8 0)), (.v (.int .u8 0))]) := by kernel_rfl
@[go_sem] theorem Tryd_infoD127 : (Tryd.prog.info? 127).map (fun i => (i.zero, i.size, i.bytes)) = some (some (.agg #[(.int .u8 0), (.int .u8 0), (.int .u8 0), (.int .u8 0), (.int .u8 0), (.int .u8 0), (.int .u8 0), (.int .u8 0), (.int .u8 0), (.int .u8 0), (.int .u8 0), (.int .u8 0), (.int .u8 0), (.int .u8 0), (.int .u8 0), (.int .u8 0), (.int .u8 0), (.int .u8 0), (.int .u8 0), (.int .u8 0), (.int .u8 0), (.int .u8 0), (.int .u8 0), (.int .u8 0), (.int .u8 0), (.int .u8 0), (.int .u8 0), (.int .u8 0), (.int .u8 0), (.int .u8 0), (.int .u8 0), (.int .u8 0), (.int .u8 0), (.int .u8 0), (.int .u8 0), (.int .u8 0), (.int .u8 0), (.int .u8 0), (.int .u8 0), (.int .u8 0), (.int .u8 0), (.int .u8 0), (.int .u8 0), (.int .u8 0), (.int .u8 0), (.int .u8 0), (.int .u8 0), (.int .u8 0), (.int .u8 0), (.int .u8 0), (.int .u8 0), (.int .u8 0), (.int .u8 0), (.int .u8 0), (.int .u8 0), (.int .u8 0), (.int .u8 0), (.int .u8 0), (.int .u8 0), (.int .u8 0), (.int .u8 0), (.int .u8 0), (.int .u8 0), (.int .u8 0)]), 64, 64) := by kernel_rfl
@[go_sem] theorem Tryd_arrD127 : arrD Tryd.prog 127 = some (64, 5) := by kernel_rfl
@[go_sem] theorem Tryd_structD127 : structD Tryd.prog 127 = none := by kernel_rfl
@[go_sem] theorem Tryd_tkind128 : tkind Tryd.prog 128 = some (true, 4) := by kernel_rfl
@[go_sem] theorem Tryd_concD128 : concD Tryd.prog 128 = true := by kernel_rfl
@[go_sem] theorem Tryd_zeroD128 : zeroD Tryd.prog 128 = some (.agg [(.v (.pointer none)), (.v (.pointer none)), (.v (.pointer none)), (.str [])]) := by kernel_rfl
@[go_sem] theorem Tryd_infoD128 : (Tryd.prog.info? 128).map (fun i => (i.zero, i.size, i.bytes)) = some (some (.agg #[(.pointer none), (.pointer none), (.pointer none), (.string ⟨#[]⟩)]), 4, 40) := by kernel_rfl
@[go_sem] theorem Tryd_fieldD128_0 : fieldD Tryd.prog 128 0 = some (0, 17) := by kernel_rfl
@[go_sem] theorem Tryd_fieldD128_1 : fieldD Tryd.prog 128 1 = some (1, 17) := by kernel_rfl
@[go_sem] theorem Tryd_fieldD128_2 : fieldD Tryd.prog 128 2 = some (2, 17) := by kernel_rfl
@[go_sem] theorem Tryd_fieldD128_3 : fieldD Tryd.prog 128 3 = some (3, 9) := by kernel_rfl
@[go_sem] theorem Tryd_structD128 : structD Tryd.prog 128 = some [(0, 17), (1, 17), (2, 17), (3, 9)] := by kernel_rfl
@[go_sem] theorem Tryd_tkind129 : tkind Tryd.prog 129 = some (true, 4) := by kernel_rfl
@[go_sem] theorem Tryd_concD129 : concD Tryd.prog 129 = true := by kernel_rfl
@[go_sem] theorem Tryd_zeroD129 : zeroD Tryd.prog 129 = some (.agg [(.v (.pointer none)), (.v (.pointer none)), (.v (.pointer none)), (.str [])]) := by kernel_rfl
@[go_sem] theorem Tryd_infoD129 : (Tryd.prog.info? 129).map (fun i => (i.zero, i.size, i.bytes)) = some (some (.agg #[(.pointer none), (.pointer none), (.pointer none), (.string ⟨#[]⟩)]), 4, 40) := by kernel_rfl
@[go_sem] theorem Tryd_fieldD129_0 : fieldD Tryd.prog 129 0 = some (0, 17) := by kernel_rfl
@[go_sem] theorem Tryd_fieldD129_1 : fieldD Tryd.prog 129 1 = some (1, 17) := by kernel_rfl
@[go_sem] theorem Tryd_fieldD129_2 : fieldD Tryd.prog 129 2 = some (2, 17) := by kernel_rfl
@[go_sem] theorem Tryd_fieldD129_3 : fieldD Tryd.prog 129 3 = some (3, 9) := by kernel_rfl
@[go_sem] theorem Tryd_structD129 : structD Tryd.prog 129 = some [(0, 17), (1, 17), (2, 17), (3, 9)] := by kernel_rfl
@[go_sem] theorem Tryd_tkind130 : tkind Tryd.prog 130 = some (true, 0) := by kernel_rfl
@[go_sem] theorem Tryd_concD130 : concD Tryd.prog 130 = true := by kernel_rfl
@[go_sem] theorem Tryd_zeroD130 : zeroD Tryd.prog 130 = some (.agg []) := by kernel_rfl
@[go_sem] theorem Tryd_infoD130 : (Tryd.prog.info? 130).map (fun i => (i.zero, i.size, i.bytes)) = some (some (.agg #[]), 0, 0) := by kernel_rfl
@[go_sem] theorem Tryd_arrD130 : arrD Tryd.prog 130 = some (0, 16) := by kernel_rfl
@[go_sem] theorem Tryd_structD130 : structD Tryd.prog 130 = none := by kernel_rfl
@[go_sem] theorem Tryd_tkind131 : tkind Tryd.prog 131 = some (true, 0) := by kernel_rfl
@[go_sem] theorem Tryd_concD131 : concD Tryd.prog 131 = true := by kernel_rfl
@[go_sem] theorem Tryd_zeroD131 : zeroD Tryd.prog 131 = some (.agg []) := by kernel_rfl
@[go_sem] theorem Tryd_infoD131 : (Tryd.prog.info? 131).map (fun i => (i.zero, i.size, i.bytes)) = some (some (.agg #[]), 0, 0) := by kernel_rfl
@[go_sem] theorem Tryd_fieldD131_0 : fieldD Tryd.prog 131 0 = some (0, 130) := by kernel_rfl
@[go_sem] theorem Tryd_structD131 : structD Tryd.prog 131 = some [(0, 130)] := by kernel_rfl
@[go_sem] theorem Tryd_tkind132 : tkind Tryd.prog 132 = some (true, 0) := by kernel_rfl
@[go_sem] theorem Tryd_concD132 : concD Tryd.prog 132 = true := by kernel_rfl
@[go_sem] theorem Tryd_zeroD132 : zeroD Tryd.prog 132 = some (.agg []) := by kernel_rfl
@[go_sem] theorem Tryd_infoD132 : (Tryd.prog.info? 132).map (fun i => (i.zero, i.size, i.bytes)) = some (some (.agg #[]), 0, 0) := by kernel_rfl
@[go_sem] theorem Tryd_fieldD132_0 : fieldD Tryd.prog 132 0 = some (0, 130) := by kernel_rfl
@[go_sem] theorem Tryd_structD132 : structD Tryd.prog 132 = some [(0, 130)] := by kernel_rfl
@[go_sem] theorem Tryd_tkind133 : tkind Tryd.prog 133 = some (false, 1) := by kernel_rfl
@[go_sem] theorem Tryd_concD133 : concD Tryd.prog 133 = true := by kernel_rfl
@[go_sem] theorem Tryd_zeroD133 : zeroD Tryd.prog 133 = some (.v (.int .u8 0)) := by kernel_rfl
@[go_sem] theorem Tryd_infoD133 : (Tryd.prog.info? 133).map (fun i => (i.zero, i.size, i.bytes)) = some (some (.int .u8 0), 1, 1) := by kernel_rfl
@[go_sem] theorem Tryd_intD133 : intD Tryd.prog 133 = some .u8 := by kernel_rfl
@[go_sem] theorem Tryd_und133 : (Tryd.prog.underlying 133).isSome = true := by kernel_rfl
@[go_sem] theorem Tryd_shapeD133 : shapeD Tryd.prog 8 133 = some [.int .u8] := by kernel_rfl
@[go_sem] theorem Tryd_eqG133 : eqG Tryd.prog 133 = true := by kernel_rfl
@[go_sem] theorem Tryd_tkind134 : tkind Tryd.prog 134 = some (false, 1) := by kernel_rfl
@[go_sem] theorem Tryd_concD134 : concD Tryd.prog 134 = true := by kernel_rfl
@[go_sem] theorem Tryd_zeroD134 : zeroD Tryd.prog 134 = some (.v (.int .u8 0)) := by kernel_rfl
@[go_sem] theorem Tryd_infoD134 : (Tryd.prog.info? 134).map (fun i => (i.zero, i.size, i.bytes)) = some (some (.int .u8 0), 1, 1) := by kernel_rfl
@[go_sem] theorem Tryd_intD134 : intD Tryd.prog 134 = some .u8 := by kernel_rfl
@[go_sem] theorem Tryd_und134 : (Tryd.prog.underlying 134).isSome = true := by kernel_rfl
@[go_sem] theorem Tryd_shapeD134 : shapeD Tryd.prog 8 134 = some [.int .u8] := by kernel_rfl
@[go_sem] theorem Tryd_eqG134 : eqG Tryd.prog 134 = true := by kernel_rfl
@[go_sem] theorem Tryd_tkind135 : tkind Tryd.prog 135 = some (false, 1) := by kernel_rfl
@[go_sem] theorem Tryd_concD135 : concD Tryd.prog 135 = true := by kernel_rfl
@[go_sem] theorem Tryd_zeroD135 : zeroD Tryd.prog 135 = some (.v .nilFunc) := by kernel_rfl
@[go_sem] theorem Tryd_infoD135 : (Tryd.prog.info? 135).map (fun i => (i.zero, i.size, i.bytes)) = some (some .nilFunc, 1, 8) := by kernel_rfl
@[go_sem] theorem Tryd_funcD135 : funcD Tryd.prog 135 = true := by kernel_rfl
@[go_sem] theorem Tryd_nf135 : nilFits Tryd.prog 135 .nilFunc = true := by kernel_rfl
@[go_sem] theorem Tryd_tkind136 : tkind Tryd.prog 136 = some (false, 1) := by kernel_rfl
@[go_sem] theorem Tryd_concD136 : concD Tryd.prog 136 = true := by kernel_rfl
@[go_sem] theorem Tryd_zeroD136 : zeroD Tryd.prog 136 = some (.v (.int .i32 0)) := by kernel_rfl
@[go_sem] theorem Tryd_infoD136 : (Tryd.prog.info? 136).map (fun i => (i.zero, i.size, i.bytes)) = some (some (.int .i32 0), 1, 4) := by kernel_rfl
@[go_sem] theorem Tryd_intD136 : intD Tryd.prog 136 = some .i32 := by kernel_rfl
@[go_sem] theorem Tryd_und136 : (Tryd.prog.underlying 136).isSome = true := by kernel_rfl
@[go_sem] theorem Tryd_shapeD136 : shapeD Tryd.prog 8 136 = some [.int .i32] := by kernel_rfl
@[go_sem] theorem Tryd_eqG136 : eqG Tryd.prog 136 = true := by kernel_rfl
@[go_sem] theorem Tryd_tkind137 : tkind Tryd.prog 137 = some (false, 1) := by kernel_rfl
@[go_sem] theorem Tryd_concD137 : concD Tryd.prog 137 = true := by kernel_rfl
@[go_sem] theorem Tryd_zeroD137 : zeroD Tryd.prog 137 = some (.v (.int .i32 0)) := by kernel_rfl
@[go_sem] theorem Tryd_infoD137 : (Tryd.prog.info? 137).map (fun i => (i.zero, i.size, i.bytes)) = some (some (.int .i32 0), 1, 4) := by kernel_rfl
@[go_sem] theorem Tryd_intD137 : intD Tryd.prog 137 = some .i32 := by kernel_rfl
@[go_sem] theorem Tryd_und137 : (Tryd.prog.underlying 137).isSome = true := by kernel_rfl
@[go_sem] theorem Tryd_shapeD137 : shapeD Tryd.prog 8 137 = some [.int .i32] := by kernel_rfl
@[go_sem] theorem Tryd_eqG137 : eqG Tryd.prog 137 = true := by kernel_rfl
@[go_sem] theorem Tryd_tkind138 : tkind Tryd.prog 138 = some (true, 11) := by kernel_rfl
@[go_sem] theorem Tryd_concD138 : concD Tryd.prog 138 = true := by kernel_rfl
@[go_sem] theorem Tryd_zeroD138 : zeroD Tryd.prog 138 = some (.agg [(.v (.int .u64 0)), (.v (.int .u64 0)), (.v (.int .u32 0)), (.v (.int .u8 0)), (.v (.int .u8 0)), (.v (.int .u8 0)), (.v (.int .u8 0)), (.v .nilFunc), (.v (.pointer none)), (.v (.int .i32 0)), (.v (.int .i32 0))]) := by kernel_rfl
@[go_sem] theorem Tryd_infoD138 : (Tryd.prog.info? 138).map (fun i => (i.zero, i.size, i.bytes)) = some (some (.agg #[(.int .u64 0), (.int .u64 0), (.int .u32 0), (.int .u8 0), (.int .u8 0), (.int .u8 0), (.int .u8 0), .nilFunc, (.pointer none), (.int .i32 0), (.int .i32 0)]), 11, 48) := by kernel_rfl
@[go_sem] theorem Tryd_fieldD138_0 : fieldD Tryd.prog 138 0 = some (0, 12) := by kernel_rfl
@[go_sem] theorem Tryd_fieldD138_1 : fieldD Tryd.prog 138 1 = some (1, 12) := by kernel_rfl
@[go_sem] theorem Tryd_fieldD138_2 : fieldD Tryd.prog 138 2 = some (2, 119) := by kernel_rfl
@[go_sem] theorem Tryd_fieldD138_3 : fieldD Tryd.prog 138 3 = some (3, 133) := by kernel_rfl
@[go_sem] theorem Tryd_fieldD138_4 : fieldD Tryd.prog 138 4 = some (4, 5) := by kernel_rfl
@[go_sem] theorem Tryd_fieldD138_5 : fieldD Tryd.prog 138 5 = some (5, 5) := by kernel_rfl
@[go_sem] theorem Tryd_fieldD138_6 : fieldD Tryd.prog 138 6 = some (6, 134) := by kernel_rfl
@[go_sem] theorem Tryd_fieldD138_7 : fieldD Tryd.prog 138 7 = some (7, 135) := by kernel_rfl
@[go_sem] theorem Tryd_fieldD138_8 : fieldD Tryd.prog 138 8 = some (8, 84) := by kernel_rfl
@[go_sem] theorem Tryd_fieldD138_9 : fieldD Tryd.prog 138 9 = some (9, 136) := by kernel_rfl
@[go_sem] theorem Tryd_fieldD138_10 : fieldD Tryd.prog 138 10 = some (10, 137) := by kernel_rfl
@[go_sem] theorem Tryd_structD138 : structD Tryd.prog 138 = some [(0, 12), (1, 12), (2, 119), (3, 133), (4, 5), (5, 5), (6, 134), (7, 135), (8, 84), (9, 136), (10, 137)] := by kernel_rfl
@[go_sem] theorem Tryd_tkind139 : tkind Tryd.prog 139 = some (true, 11) := by kernel_rfl
@[go_sem] theorem Tryd_concD139 : concD Tryd.prog 139 = true := by kernel_rfl
@[go_sem] theorem Tryd_zeroD139 : zeroD Tryd.prog 139 = some (.agg [(.v (.int .u64 0)), (.v (.int .u64 0)), (.v (.int .u32 0)), (.v (.int .u8 0)), (.v (.int .u8 0)), (.v (.int .u8 0)), (.v (.int .u8 0)), (.v .nilFunc), (.v (.pointer none)), (.v (.int .i32 0)), (.v (.int .i32 0))]) := by kernel_rfl
@[go_sem] theorem Tryd_infoD139 : (Tryd.prog.info? 139).map (fun i => (i.zero, i.size, i.bytes)) = some (some (.agg #[(.int .u64 0), (.int .u64 0), (.int .u32 0), (.int .u8 0), (.int .u8 0), (.int .u8 0), (.int .u8 0), .nilFunc, (.pointer none), (.int .i32 0), (.int .i32 0)]), 11, 48) := by kernel_rfl
@[go_sem] theorem Tryd_fieldD139_0 : fieldD Tryd.prog 139 0 = some (0, 12) := by kernel_rfl
@[go_sem] theorem Tryd_fieldD139_1 : fieldD Tryd.prog 139 1 = some (1, 12) := by kernel_rfl
@[go_sem] theorem Tryd_fieldD139_2 : fieldD Tryd.prog 139 2 = some (2, 119) := by kernel_rfl
@[go_sem] theorem Tryd_fieldD139_3 : fieldD Tryd.prog 139 3 = some (3, 133) := by kernel_rfl
@[go_sem] theorem Tryd_fieldD139_4 : fieldD Tryd.prog 139 4 = some (4, 5) := by kernel_rfl
@[go_sem] theorem Tryd_fieldD139_5 : fieldD Tryd.prog 139 5 = some (5, 5) := by kernel_rfl
@[go_sem] theorem Tryd_fieldD139_6 : fieldD Tryd.prog 139 6 = some (6, 134) := by kernel_rfl
@[go_sem] theorem Tryd_fieldD139_7 : fieldD Tryd.prog 139 7 = some (7, 135) := by kernel_rfl
@[go_sem] theorem Tryd_fieldD139_8 : fieldD Tryd.prog 139 8 = some (8, 84) := by kernel_rfl
@[go_sem] theorem Tryd_fieldD139_9 : fieldD Tryd.prog 139 9 = some (9, 136) := by kernel_rfl
@[go_sem] theorem Tryd_fieldD139_10 : fieldD Tryd.prog 139 10 = some (10, 137) := by kernel_rfl
@[go_sem] theorem Tryd_structD139 : structD Tryd.prog 139 = some [(0, 12), (1, 12), (2, 119), (3, 133), (4, 5), (5, 5), (6, 134), (7, 135), (8, 84), (9, 136), (10, 137)] := by kernel_rfl
@[go_sem] theorem Tryd_okF3 : okF Tryd.prog 3 = true := by kernel_rfl
@[go_sem] theorem Tryd_okF4 : okF Tryd.prog 4 = true := by kernel_rfl
@[go_sem] theorem Tryd_okF5 : okF Tryd.prog 5 = true := by kernel_rfl
@[go_sem] theorem Tryd_okF6 : okF Tryd.prog 6 = true := by kernel_rfl
@[go_sem] theorem Tryd_okF7 : okF Tryd.prog 7 = true := by kernel_rfl
@[go_sem] theorem Tryd_okF8 : okF Tryd.prog 8 = true := by kernel_rfl
@[go_sem] theorem Tryd_okF9 : okF Tryd.prog 9 = true := by kernel_rfl
@[go_sem] theorem Tryd_okF10 : okF Tryd.prog 10 = true := by kernel_rfl
@[go_sem] theorem Tryd_okF11 : okF Tryd.prog 11 = true := by kernel_rfl
@[go_sem] theorem Tryd_okF12 : okF Tryd.prog 12 = true := by kernel_rfl
@[go_sem] theorem Tryd_okF13 : okF Tryd.prog 13 = true := by kernel_rfl
@[go_sem] theorem Tryd_okF14 : okF Tryd.prog 14 = true := by kernel_rfl
@[go_sem] theorem Tryd_okF15 : okF Tryd.prog 15 = true := by kernel_rfl
@[go_sem] theorem Tryd_okF16 : okF Tryd.prog 16 = true := by kernel_rfl
@[go_sem] theorem Tryd_okF17 : okF Tryd.prog 17 = true := by kernel_rfl
@[go_sem] theorem Tryd_okF18 : okF Tryd.prog 18 = true := by kernel_rfl
@[go_sem] theorem Tryd_okF19 : okF Tryd.prog 19 = true := by kernel_rfl
@[go_sem] theorem Tryd_okF20 : okF Tryd.prog 20 = true := by kernel_rfl
@[go_sem] theorem Tryd_okF21 : okF Tryd.prog 21 = true := by kernel_rfl
@[go_sem] theorem Tryd_okF22 : okF Tryd.prog 22 = true := by kernel_rfl
@[go_sem] theorem Tryd_okF23 : okF Tryd.prog 23 = true := by kernel_rfl
@[go_sem] theorem Tryd_okF24 : okF Tryd.prog 24 = true := by kernel_rfl
@[go_sem] theorem Tryd_okF25 : okF Tryd.prog 25 = true := by kernel_rfl
@[go_sem] theorem Tryd_okF26 : okF Tryd.prog 26 = true := by kernel_rfl
@[go_sem] theorem Tryd_okF27 : okF Tryd.prog 27 = true := by kernel_rfl
@[go_sem] theorem Tryd_okF28 : okF Tryd.prog 28 = true := by kernel_rfl
@[go_sem] theorem Tryd_okF29 : okF Tryd.prog 29 = true := by kernel_rfl
@[go_sem] theorem Tryd_okF30 : okF Tryd.prog 30 = true := by kernel_rfl
@[go_sem] theorem Tryd_okF31 : okF Tryd.prog 31 = true := by kernel_rfl
@[go_sem] theorem Tryd_okF32 : okF Tryd.prog 32 = true := by kernel_rfl
@[go_sem] theorem Tryd_okF33 : okF Tryd.prog 33 = true := by kernel_rfl
@[go_sem] theorem Tryd_okF34 : okF Tryd.prog 34 = true := by kernel_rfl
@[go_sem] theorem Tryd_okF35 : okF Tryd.prog 35 = true := by kernel_rfl
@[go_sem] theorem Tryd_okF36 : okF Tryd.prog 36 = true := by kernel_rfl
@[go_sem] theorem Tryd_okF37 : okF Tryd.prog 37 = true := by kernel_rfl
@[go_sem] theorem Tryd_okF38 : okF Tryd.prog 38 = true := by kernel_rfl
@[go_sem] theorem Tryd_okF39 : okF Tryd.prog 39 = true := by kernel_rfl
@[go_sem] theorem Tryd_okF40 : okF Tryd.prog 40 = true := by kernel_rfl
@[go_sem] theorem Tryd_okF41 : okF Tryd.prog 41 = true := by kernel_rfl
@[go_sem] theorem Tryd_okF42 : okF Tryd.prog 42 = true := by kernel_rfl
@[go_sem] theorem Tryd_okF43 : okF Tryd.prog 43 = true := by kernel_rfl
@[go_sem] theorem Tryd_okF44 : okF Tryd.prog 44 = true := by kernel_rfl
@[go_sem] theorem Tryd_okF45 : okF Tryd.prog 45 = true := by kernel_rfl
@[go_sem] theorem Tryd_okF46 : okF Tryd.prog 46 = true := by kernel_rfl
@[go_sem] theorem Tryd_okF47 : okF Tryd.prog 47 = true := by kernel_rfl
@[go_sem] theorem Tryd_okF48 : okF Tryd.prog 48 = true := by kernel_rfl
@[go_sem] theorem Tryd_okF49 : okF Tryd.prog 49 = true := by kernel_rfl
@[go_sem] theorem Tryd_okF50 : okF Tryd.prog 50 = true := by kernel_rfl
@[go_sem] theorem Tryd_okF51 : okF Tryd.prog 51 = true := by kernel_rfl
@[go_sem] theorem Tryd_okF52 : okF Tryd.prog 52 = true := by kernel_rfl
@[go_sem] theorem Tryd_okF53 : okF Tryd.prog 53 = true := by kernel_rfl
@[go_sem] theorem Tryd_okF54 : okF Tryd.prog 54 = true := by kernel_rfl
@[go_sem] theorem Tryd_okF55 : okF Tryd.prog 55 = true := by kernel_rfl
@[go_sem] theorem Tryd_okF56 : okF Tryd.prog 56 = true := by kernel_rfl
@[go_sem] theorem Tryd_okF57 : okF Tryd.prog 57 = true := by kernel_rfl
@[go_sem] theorem Tryd_okF58 : okF Tryd.prog 58 = true := by kernel_rfl
@[go_sem] theorem Tryd_okF59 : okF Tryd.prog 59 = true := by kernel_rfl
@[go_sem] theorem Tryd_okF60 : okF Tryd.prog 60 = true := by kernel_rfl
@[go_sem] theorem Tryd_okF61 : okF Tryd.prog 61 = true := by kernel_rfl
@[go_sem] theorem Tryd_okF62 : okF Tryd.prog 62 = true := by kernel_rfl
@[go_sem] theorem Tryd_okF63 : okF Tryd.prog 63 = true := by kernel_rfl
@[go_sem] theorem Tryd_okF64 : okF Tryd.prog 64 = true := by kernel_rfl
@[go_sem] theorem Tryd_okF65 : okF Tryd.prog 65 = true := by kernel_rfl
@[go_sem] theorem Tryd_okF67 : okF Tryd.prog 67 = true := by kernel_rfl
@[go_sem] theorem Tryd_okF68 : okF Tryd.prog 68 = true := by kernel_rfl
@[go_sem] theorem Tryd_okF69 : okF Tryd.prog 69 = true := by kernel_rfl
@[go_sem] theorem Tryd_okF70 : okF Tryd.prog 70 = true := by kernel_rfl
@[go_sem] theorem Tryd_okF71 : okF Tryd.prog 71 = true := by kernel_rfl
@[go_sem] theorem Tryd_okF72 : okF Tryd.prog 72 = true := by kernel_rfl
@[go_sem] theorem Tryd_okF73 : okF Tryd.prog 73 = true := by kernel_rfl
@[go_sem] theorem Tryd_okF74 : okF Tryd.prog 74 = true := by kernel_rfl
@[go_sem] theorem Tryd_okF75 : okF Tryd.prog 75 = true := by kernel_rfl
@[go_sem] theorem Tryd_okF76 : okF Tryd.prog 76 = true := by kernel_rfl
@[go_sem] theorem Tryd_okF77 : okF Tryd.prog 77 = true := by kernel_rfl
@[go_sem] theorem Tryd_okF78 : okF Tryd.prog 78 = true := by kernel_rfl
@[go_sem] theorem Tryd_okF79 : okF Tryd.prog 79 = true := by kernel_rfl
@[go_sem] theorem Tryd_okF80 : okF Tryd.prog 80 = true := by kernel_rfl
@[go_sem] theorem Tryd_okF81 : okF Tryd.prog 81 = true := by kernel_rfl
@[go_sem] theorem Tryd_okF82 : okF Tryd.prog 82 = true := by kernel_rfl
@[go_sem] theorem Tryd_okF83 : okF Tryd.prog 83 = true := by kernel_rfl
@[go_sem] theorem Tryd_okF85 : okF Tryd.prog 85 = true := by kernel_rfl
@[go_sem] theorem Tryd_okF86 : okF Tryd.prog 86 = true := by kernel_rfl
@[go_sem] theorem Tryd_okF87 : okF Tryd.prog 87 = true := by kernel_rfl
@[go_sem] theorem Tryd_okF88 : okF Tryd.prog 88 = true := by kernel_rfl
@[go_sem] theorem Tryd_okF89 : okF Tryd.prog 89 = true := by kernel_rfl
@[go_sem] theorem Tryd_okF113 : okF Tryd.prog 113 = true := by kernel_rfl
end Go.Proofs.YtedicdnflpjhkaaDoor
