/- Closed facts on the program: its types, its functions. -/
import Derived.Test.YtmalhikcdideoaaDoorSlS
import Derived.Test.YtmalhikcdideoaaDoorProg
import Derived.KernelRfl
namespace Go.Proofs.YtmalhikcdideoaaDoor
open Go Sl
@[go_sem] theorem ld3 : ldT Tryd.prog 3 = some (1, false) := by kernel_rfl
@[go_sem] theorem und3 : Tryd.prog.underlying 3 = some (.int .i64) := by kernel_rfl
@[go_sem] theorem zr3 : zeroA Tryd.prog 3 = some (1, [.int .i64 0]) := by kernel_rfl
theorem zv3 : zeroV Tryd.prog 3 = some (.v (.int .i64 0)) := by kernel_rfl
@[go_sem] theorem by3 : bytesT Tryd.prog 3 = some 8 := by kernel_rfl
@[go_sem] theorem ld4 : ldT Tryd.prog 4 = some (1, false) := by kernel_rfl
@[go_sem] theorem und4 : Tryd.prog.underlying 4 = some (.bool) := by kernel_rfl
@[go_sem] theorem zr4 : zeroA Tryd.prog 4 = some (1, [.bool false]) := by kernel_rfl
theorem zv4 : zeroV Tryd.prog 4 = some (.v (.bool false)) := by kernel_rfl
@[go_sem] theorem by4 : bytesT Tryd.prog 4 = some 1 := by kernel_rfl
@[go_sem] theorem ld5 : ldT Tryd.prog 5 = some (1, false) := by kernel_rfl
@[go_sem] theorem und5 : Tryd.prog.underlying 5 = some (.int .u8) := by kernel_rfl
@[go_sem] theorem zr5 : zeroA Tryd.prog 5 = some (1, [.int .u8 0]) := by kernel_rfl
theorem zv5 : zeroV Tryd.prog 5 = some (.v (.int .u8 0)) := by kernel_rfl
@[go_sem] theorem by5 : bytesT Tryd.prog 5 = some 1 := by kernel_rfl
@[go_sem] theorem ld9 : ldT Tryd.prog 9 = some (1, false) := by kernel_rfl
@[go_sem] theorem elt9 : eltT Tryd.prog 9 = none := by kernel_rfl
@[go_sem] theorem und9 : Tryd.prog.underlying 9 = some (.string) := by kernel_rfl
@[go_sem] theorem zr9 : zeroA Tryd.prog 9 = some (1, [.string ⟨#[]⟩]) := by kernel_rfl
theorem zv9 : zeroV Tryd.prog 9 = some (.v (.string ⟨#[]⟩)) := by kernel_rfl
@[go_sem] theorem by9 : bytesT Tryd.prog 9 = some 16 := by kernel_rfl
@[go_sem] theorem ld21 : ldT Tryd.prog 21 = some (1, false) := by kernel_rfl
@[go_sem] theorem und21 : Tryd.prog.underlying 21 = some (.int .i32) := by kernel_rfl
@[go_sem] theorem zr21 : zeroA Tryd.prog 21 = some (1, [.int .i32 0]) := by kernel_rfl
theorem zv21 : zeroV Tryd.prog 21 = some (.v (.int .i32 0)) := by kernel_rfl
@[go_sem] theorem by21 : bytesT Tryd.prog 21 = some 4 := by kernel_rfl
@[go_sem] theorem ld23 : ldT Tryd.prog 23 = some (1, false) := by kernel_rfl
@[go_sem] theorem elt23 : eltT Tryd.prog 23 = some (3, true) := by kernel_rfl
@[go_sem] theorem und23 : Tryd.prog.underlying 23 = some (.slice 31) := by kernel_rfl
@[go_sem] theorem zr23 : zeroA Tryd.prog 23 = some (1, [.slice none 0 0]) := by kernel_rfl
theorem zv23 : zeroV Tryd.prog 23 = some (.v (.slice none 0 0)) := by kernel_rfl
@[go_sem] theorem by23 : bytesT Tryd.prog 23 = some 24 := by kernel_rfl
@[go_sem] theorem ld24 : ldT Tryd.prog 24 = some (1, false) := by kernel_rfl
@[go_sem] theorem und24 : Tryd.prog.underlying 24 = some (.int .i64) := by kernel_rfl
@[go_sem] theorem zr24 : zeroA Tryd.prog 24 = some (1, [.int .i64 0]) := by kernel_rfl
theorem zv24 : zeroV Tryd.prog 24 = some (.v (.int .i64 0)) := by kernel_rfl
@[go_sem] theorem by24 : bytesT Tryd.prog 24 = some 8 := by kernel_rfl
@[go_sem] theorem ld31 : ldT Tryd.prog 31 = some (3, true) := by kernel_rfl
@[go_sem] theorem zr31 : zeroA Tryd.prog 31 = some (3, [.int .i64 0, .string ⟨#[]⟩, .int .i64 0]) := by kernel_rfl
theorem zv31 : zeroV Tryd.prog 31 = some (aggL [.v (.int .i64 0), .v (.string ⟨#[]⟩), .v (.int .i64 0)]) := by kernel_rfl
@[go_sem] theorem by31 : bytesT Tryd.prog 31 = some 32 := by kernel_rfl
@[go_sem] theorem eq31 : eqT Tryd.prog 31 = some [(0, 0), (1, 1), (2, 0)] := by kernel_rfl
@[go_sem] theorem pl31 : placesT Tryd.prog 31 = some [(0, 1), (1, 1), (2, 1)] := by kernel_rfl
@[go_sem] theorem ld33 : ldT Tryd.prog 33 = some (1, false) := by kernel_rfl
@[go_sem] theorem elt33 : eltT Tryd.prog 33 = some (1, false) := by kernel_rfl
@[go_sem] theorem und33 : Tryd.prog.underlying 33 = some (.slice 9) := by kernel_rfl
@[go_sem] theorem zr33 : zeroA Tryd.prog 33 = some (1, [.slice none 0 0]) := by kernel_rfl
theorem zv33 : zeroV Tryd.prog 33 = some (.v (.slice none 0 0)) := by kernel_rfl
@[go_sem] theorem by33 : bytesT Tryd.prog 33 = some 24 := by kernel_rfl
@[go_sem] theorem ld85 : ldT Tryd.prog 85 = some (256, true) := by kernel_rfl
@[go_sem] theorem elt85 : eltT Tryd.prog 85 = none := by kernel_rfl
@[go_sem] theorem arr85 : arrT Tryd.prog 85 = some (256, 1, false) := by kernel_rfl
@[go_sem] theorem und85 : Tryd.prog.underlying 85 = some (.array 256 5) := by kernel_rfl
@[go_sem] theorem by85 : bytesT Tryd.prog 85 = some 256 := by kernel_rfl
@[go_sem] theorem ld87 : ldT Tryd.prog 87 = some (1, false) := by kernel_rfl
@[go_sem] theorem zr87 : zeroA Tryd.prog 87 = some (1, [.nilFunc]) := by kernel_rfl
theorem zv87 : zeroV Tryd.prog 87 = some (.v (.nilFunc)) := by kernel_rfl
@[go_sem] theorem by87 : bytesT Tryd.prog 87 = some 8 := by kernel_rfl
@[go_sem] theorem ld88 : ldT Tryd.prog 88 = some (1, false) := by kernel_rfl
@[go_sem] theorem zr88 : zeroA Tryd.prog 88 = some (1, [.nilFunc]) := by kernel_rfl
theorem zv88 : zeroV Tryd.prog 88 = some (.v (.nilFunc)) := by kernel_rfl
@[go_sem] theorem by88 : bytesT Tryd.prog 88 = some 8 := by kernel_rfl
@[go_sem] theorem ld133 : ldT Tryd.prog 133 = some (1, false) := by kernel_rfl
@[go_sem] theorem elt133 : eltT Tryd.prog 133 = some (2, true) := by kernel_rfl
@[go_sem] theorem und133 : Tryd.prog.underlying 133 = some (.slice 135) := by kernel_rfl
@[go_sem] theorem zr133 : zeroA Tryd.prog 133 = some (1, [.slice none 0 0]) := by kernel_rfl
theorem zv133 : zeroV Tryd.prog 133 = some (.v (.slice none 0 0)) := by kernel_rfl
@[go_sem] theorem by133 : bytesT Tryd.prog 133 = some 24 := by kernel_rfl
@[go_sem] theorem ld135 : ldT Tryd.prog 135 = some (2, true) := by kernel_rfl
@[go_sem] theorem zr135 : zeroA Tryd.prog 135 = some (2, [.int .i64 0, .int .i64 0]) := by kernel_rfl
theorem zv135 : zeroV Tryd.prog 135 = some (aggL [.v (.int .i64 0), .v (.int .i64 0)]) := by kernel_rfl
@[go_sem] theorem by135 : bytesT Tryd.prog 135 = some 16 := by kernel_rfl
@[go_sem] theorem pl135 : placesT Tryd.prog 135 = some [(0, 1), (1, 1)] := by kernel_rfl
@[go_sem] theorem ld136 : ldT Tryd.prog 136 = some (1, false) := by kernel_rfl
@[go_sem] theorem und136 : Tryd.prog.underlying 136 = some (.int .u32) := by kernel_rfl
@[go_sem] theorem zr136 : zeroA Tryd.prog 136 = some (1, [.int .u32 0]) := by kernel_rfl
theorem zv136 : zeroV Tryd.prog 136 = some (.v (.int .u32 0)) := by kernel_rfl
@[go_sem] theorem by136 : bytesT Tryd.prog 136 = some 4 := by kernel_rfl
@[go_sem] theorem ld138 : ldT Tryd.prog 138 = some (1, false) := by kernel_rfl
@[go_sem] theorem und138 : Tryd.prog.underlying 138 = some (.pointer 163) := by kernel_rfl
@[go_sem] theorem zr138 : zeroA Tryd.prog 138 = some (1, [.pointer none]) := by kernel_rfl
theorem zv138 : zeroV Tryd.prog 138 = some (.v (.pointer none)) := by kernel_rfl
@[go_sem] theorem by138 : bytesT Tryd.prog 138 = some 8 := by kernel_rfl
@[go_sem] theorem ld139 : ldT Tryd.prog 139 = some (1, false) := by kernel_rfl
@[go_sem] theorem und139 : Tryd.prog.underlying 139 = some (.int .u64) := by kernel_rfl
@[go_sem] theorem zr139 : zeroA Tryd.prog 139 = some (1, [.int .u64 0]) := by kernel_rfl
theorem zv139 : zeroV Tryd.prog 139 = some (.v (.int .u64 0)) := by kernel_rfl
@[go_sem] theorem by139 : bytesT Tryd.prog 139 = some 8 := by kernel_rfl
@[go_sem] theorem ld160 : ldT Tryd.prog 160 = some (1, false) := by kernel_rfl
@[go_sem] theorem elt160 : eltT Tryd.prog 160 = some (3, true) := by kernel_rfl
@[go_sem] theorem und160 : Tryd.prog.underlying 160 = some (.slice 166) := by kernel_rfl
@[go_sem] theorem zr160 : zeroA Tryd.prog 160 = some (1, [.slice none 0 0]) := by kernel_rfl
theorem zv160 : zeroV Tryd.prog 160 = some (.v (.slice none 0 0)) := by kernel_rfl
@[go_sem] theorem by160 : bytesT Tryd.prog 160 = some 24 := by kernel_rfl
@[go_sem] theorem ld161 : ldT Tryd.prog 161 = some (1, false) := by kernel_rfl
@[go_sem] theorem elt161 : eltT Tryd.prog 161 = some (3, true) := by kernel_rfl
@[go_sem] theorem und161 : Tryd.prog.underlying 161 = some (.slice 169) := by kernel_rfl
@[go_sem] theorem zr161 : zeroA Tryd.prog 161 = some (1, [.slice none 0 0]) := by kernel_rfl
theorem zv161 : zeroV Tryd.prog 161 = some (.v (.slice none 0 0)) := by kernel_rfl
@[go_sem] theorem by161 : bytesT Tryd.prog 161 = some 24 := by kernel_rfl
@[go_sem] theorem ld163 : ldT Tryd.prog 163 = some (3, true) := by kernel_rfl
@[go_sem] theorem zr163 : zeroA Tryd.prog 163 = some (3, [.slice none 0 0, .slice none 0 0, .int .i64 0]) := by kernel_rfl
theorem zv163 : zeroV Tryd.prog 163 = some (aggL [.v (.slice none 0 0), .v (.slice none 0 0), .v (.int .i64 0)]) := by kernel_rfl
@[go_sem] theorem by163 : bytesT Tryd.prog 163 = some 56 := by kernel_rfl
@[go_sem] theorem pl163 : placesT Tryd.prog 163 = some [(0, 1), (1, 1), (2, 1)] := by kernel_rfl
@[go_sem] theorem ld164 : ldT Tryd.prog 164 = some (1, false) := by kernel_rfl
@[go_sem] theorem und164 : Tryd.prog.underlying 164 = some (.int .u16) := by kernel_rfl
@[go_sem] theorem zr164 : zeroA Tryd.prog 164 = some (1, [.int .u16 0]) := by kernel_rfl
theorem zv164 : zeroV Tryd.prog 164 = some (.v (.int .u16 0)) := by kernel_rfl
@[go_sem] theorem by164 : bytesT Tryd.prog 164 = some 2 := by kernel_rfl
@[go_sem] theorem ld166 : ldT Tryd.prog 166 = some (3, true) := by kernel_rfl
@[go_sem] theorem zr166 : zeroA Tryd.prog 166 = some (3, [.int .u16 0, .int .u16 0, .int .u16 0]) := by kernel_rfl
theorem zv166 : zeroV Tryd.prog 166 = some (aggL [.v (.int .u16 0), .v (.int .u16 0), .v (.int .u16 0)]) := by kernel_rfl
@[go_sem] theorem by166 : bytesT Tryd.prog 166 = some 6 := by kernel_rfl
@[go_sem] theorem pl166 : placesT Tryd.prog 166 = some [(0, 1), (1, 1), (2, 1)] := by kernel_rfl
@[go_sem] theorem ld169 : ldT Tryd.prog 169 = some (3, true) := by kernel_rfl
@[go_sem] theorem zr169 : zeroA Tryd.prog 169 = some (3, [.int .u32 0, .int .u32 0, .int .u32 0]) := by kernel_rfl
theorem zv169 : zeroV Tryd.prog 169 = some (aggL [.v (.int .u32 0), .v (.int .u32 0), .v (.int .u32 0)]) := by kernel_rfl
@[go_sem] theorem by169 : bytesT Tryd.prog 169 = some 12 := by kernel_rfl
@[go_sem] theorem pl169 : placesT Tryd.prog 169 = some [(0, 1), (1, 1), (2, 1)] := by kernel_rfl
@[go_sem] theorem fld31_0 : fldT Tryd.prog 31 0 = some (0, 1, false) := by kernel_rfl
@[go_sem] theorem fld31_1 : fldT Tryd.prog 31 1 = some (1, 1, false) := by kernel_rfl
@[go_sem] theorem fld135_0 : fldT Tryd.prog 135 0 = some (0, 1, false) := by kernel_rfl
@[go_sem] theorem fld135_1 : fldT Tryd.prog 135 1 = some (1, 1, false) := by kernel_rfl
@[go_sem] theorem fld163_0 : fldT Tryd.prog 163 0 = some (0, 1, false) := by kernel_rfl
@[go_sem] theorem fld163_1 : fldT Tryd.prog 163 1 = some (1, 1, false) := by kernel_rfl
@[go_sem] theorem fld163_2 : fldT Tryd.prog 163 2 = some (2, 1, false) := by kernel_rfl
@[go_sem] theorem fld166_0 : fldT Tryd.prog 166 0 = some (0, 1, false) := by kernel_rfl
@[go_sem] theorem fld166_1 : fldT Tryd.prog 166 1 = some (1, 1, false) := by kernel_rfl
@[go_sem] theorem fld166_2 : fldT Tryd.prog 166 2 = some (2, 1, false) := by kernel_rfl
@[go_sem] theorem fld169_0 : fldT Tryd.prog 169 0 = some (0, 1, false) := by kernel_rfl
@[go_sem] theorem fld169_1 : fldT Tryd.prog 169 1 = some (1, 1, false) := by kernel_rfl
@[go_sem] theorem fld169_2 : fldT Tryd.prog 169 2 = some (2, 1, false) := by kernel_rfl
theorem nt3 : Tryd.f3.ntmps = 53 := rfl
theorem rs3 : Tryd.f3.results.toList = [.tmp 2] := rfl
@[go_sem] theorem cb3 : callable Tryd.prog 3 = true := by kernel_rfl
theorem nt9 : Tryd.f9.ntmps = 21 := rfl
theorem rs9 : Tryd.f9.results.toList = [.tmp 0] := rfl
@[go_sem] theorem cb9 : callable Tryd.prog 9 = true := by kernel_rfl
theorem nt10 : Tryd.f10.ntmps = 15 := rfl
theorem rs10 : Tryd.f10.results.toList = [.tmp 2, .tmp 3] := rfl
@[go_sem] theorem cb10 : callable Tryd.prog 10 = true := by kernel_rfl
theorem nt11 : Tryd.f11.ntmps = 60 := rfl
theorem rs11 : Tryd.f11.results.toList = [.tmp 2, .tmp 3, .tmp 4] := rfl
@[go_sem] theorem cb11 : callable Tryd.prog 11 = true := by kernel_rfl
theorem nt12 : Tryd.f12.ntmps = 100 := rfl
theorem rs12 : Tryd.f12.results.toList = [.tmp 2, .tmp 3, .tmp 4] := rfl
@[go_sem] theorem cb12 : callable Tryd.prog 12 = true := by kernel_rfl
theorem nt13 : Tryd.f13.ntmps = 26 := rfl
theorem rs13 : Tryd.f13.results.toList = [.tmp 4] := rfl
@[go_sem] theorem cb13 : callable Tryd.prog 13 = true := by kernel_rfl
theorem nt14 : Tryd.f14.ntmps = 106 := rfl
theorem rs14 : Tryd.f14.results.toList = [.tmp 2] := rfl
@[go_sem] theorem cb14 : callable Tryd.prog 14 = true := by kernel_rfl
theorem nt16 : Tryd.f16.ntmps = 2 := rfl
theorem rs16 : Tryd.f16.results.toList = [.tmp 0] := rfl
@[go_sem] theorem cb16 : callable Tryd.prog 16 = true := by kernel_rfl
theorem nt46 : Tryd.f46.ntmps = 82 := rfl
theorem rs46 : Tryd.f46.results.toList = [.tmp 4, .tmp 5] := rfl
@[go_sem] theorem cb46 : callable Tryd.prog 46 = true := by kernel_rfl
theorem nt47 : Tryd.f47.ntmps = 18 := rfl
theorem rs47 : Tryd.f47.results.toList = [] := rfl
@[go_sem] theorem cb47 : callable Tryd.prog 47 = true := by kernel_rfl
theorem nt48 : Tryd.f48.ntmps = 8 := rfl
theorem rs48 : Tryd.f48.results.toList = [.tmp 4] := rfl
@[go_sem] theorem cb48 : callable Tryd.prog 48 = true := by kernel_rfl
theorem nt49 : Tryd.f49.ntmps = 9 := rfl
theorem rs49 : Tryd.f49.results.toList = [.tmp 4] := rfl
@[go_sem] theorem cb49 : callable Tryd.prog 49 = true := by kernel_rfl
theorem nt50 : Tryd.f50.ntmps = 2 := rfl
theorem rs50 : Tryd.f50.results.toList = [.tmp 0] := rfl
@[go_sem] theorem cb50 : callable Tryd.prog 50 = true := by kernel_rfl
theorem nt51 : Tryd.f51.ntmps = 65 := rfl
theorem rs51 : Tryd.f51.results.toList = [.tmp 4] := rfl
@[go_sem] theorem cb51 : callable Tryd.prog 51 = true := by kernel_rfl
theorem nt52 : Tryd.f52.ntmps = 19 := rfl
theorem rs52 : Tryd.f52.results.toList = [.tmp 2] := rfl
@[go_sem] theorem cb52 : callable Tryd.prog 52 = true := by kernel_rfl
theorem nt53 : Tryd.f53.ntmps = 9 := rfl
theorem rs53 : Tryd.f53.results.toList = [.tmp 2] := rfl
@[go_sem] theorem cb53 : callable Tryd.prog 53 = true := by kernel_rfl
theorem nt54 : Tryd.f54.ntmps = 13 := rfl
theorem rs54 : Tryd.f54.results.toList = [.tmp 2] := rfl
@[go_sem] theorem cb54 : callable Tryd.prog 54 = true := by kernel_rfl
theorem nt55 : Tryd.f55.ntmps = 54 := rfl
theorem rs55 : Tryd.f55.results.toList = [.tmp 4, .tmp 5] := rfl
@[go_sem] theorem cb55 : callable Tryd.prog 55 = true := by kernel_rfl
theorem nt81 : Tryd.f81.ntmps = 26 := rfl
theorem rs81 : Tryd.f81.results.toList = [.tmp 6] := rfl
@[go_sem] theorem cb81 : callable Tryd.prog 81 = true := by kernel_rfl
theorem nt82 : Tryd.f82.ntmps = 9 := rfl
theorem rs82 : Tryd.f82.results.toList = [.tmp 2] := rfl
@[go_sem] theorem cb82 : callable Tryd.prog 82 = true := by kernel_rfl
theorem nt83 : Tryd.f83.ntmps = 17 := rfl
theorem rs83 : Tryd.f83.results.toList = [.tmp 2] := rfl
@[go_sem] theorem cb83 : callable Tryd.prog 83 = true := by kernel_rfl
theorem nt84 : Tryd.f84.ntmps = 8 := rfl
theorem rs84 : Tryd.f84.results.toList = [.tmp 4] := rfl
@[go_sem] theorem cb84 : callable Tryd.prog 84 = true := by kernel_rfl
theorem nt85 : Tryd.f85.ntmps = 19 := rfl
theorem rs85 : Tryd.f85.results.toList = [.tmp 4] := rfl
@[go_sem] theorem cb85 : callable Tryd.prog 85 = true := by kernel_rfl
theorem nt86 : Tryd.f86.ntmps = 59 := rfl
theorem rs86 : Tryd.f86.results.toList = [.tmp 4] := rfl
@[go_sem] theorem cb86 : callable Tryd.prog 86 = true := by kernel_rfl
theorem nt87 : Tryd.f87.ntmps = 17 := rfl
theorem rs87 : Tryd.f87.results.toList = [.tmp 4] := rfl
@[go_sem] theorem cb87 : callable Tryd.prog 87 = true := by kernel_rfl
theorem nt88 : Tryd.f88.ntmps = 6 := rfl
theorem rs88 : Tryd.f88.results.toList = [.tmp 2] := rfl
@[go_sem] theorem cb88 : callable Tryd.prog 88 = true := by kernel_rfl
@[go_sem] theorem cb113 : callable Tryd.prog 113 = false := by kernel_rfl
theorem nt114 : Tryd.f114.ntmps = 114 := rfl
theorem rs114 : Tryd.f114.results.toList = [.tmp 4] := rfl
@[go_sem] theorem cb114 : callable Tryd.prog 114 = true := by kernel_rfl
theorem nt115 : Tryd.f115.ntmps = 99 := rfl
theorem rs115 : Tryd.f115.results.toList = [.tmp 4] := rfl
@[go_sem] theorem cb115 : callable Tryd.prog 115 = true := by kernel_rfl
theorem nt116 : Tryd.f116.ntmps = 6 := rfl
theorem rs116 : Tryd.f116.results.toList = [.tmp 2] := rfl
@[go_sem] theorem cb116 : callable Tryd.prog 116 = true := by kernel_rfl
@[go_sem] theorem gla0 : glA 0 = .fp 256 fun j => .v (spaceL.getD j undef) := by simp [glA, glV, gl, spaceL_length]
theorem mixed : Tryd.prog.follows .mixedOrders = true := by kernel_rfl
end Go.Proofs.YtmalhikcdideoaaDoor
