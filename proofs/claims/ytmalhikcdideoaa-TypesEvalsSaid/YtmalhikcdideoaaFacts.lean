/- Closed facts on the program: its types, its functions. -/
import Derived.Test.YtmalhikcdideoaaSlV
import Derived.Test.YtmalhikcdideoaaProg
import Derived.KernelRfl
namespace Go.Proofs.Ytmalhikcdideoaa
open Go Sl
@[go_sem] theorem ld3 : ldT Try.prog 3 = some (1, false) := by kernel_rfl
@[go_sem] theorem und3 : Try.prog.underlying 3 = some (.int .i64) := by kernel_rfl
@[go_sem] theorem zr3 : zeroA Try.prog 3 = some (1, [.int .i64 0]) := by kernel_rfl
theorem zv3 : zeroV Try.prog 3 = some (.v (.int .i64 0)) := by kernel_rfl
@[go_sem] theorem by3 : bytesT Try.prog 3 = some 8 := by kernel_rfl
@[go_sem] theorem ld4 : ldT Try.prog 4 = some (1, false) := by kernel_rfl
@[go_sem] theorem und4 : Try.prog.underlying 4 = some (.bool) := by kernel_rfl
@[go_sem] theorem zr4 : zeroA Try.prog 4 = some (1, [.bool false]) := by kernel_rfl
theorem zv4 : zeroV Try.prog 4 = some (.v (.bool false)) := by kernel_rfl
@[go_sem] theorem by4 : bytesT Try.prog 4 = some 1 := by kernel_rfl
@[go_sem] theorem ld5 : ldT Try.prog 5 = some (1, false) := by kernel_rfl
@[go_sem] theorem und5 : Try.prog.underlying 5 = some (.int .u8) := by kernel_rfl
@[go_sem] theorem zr5 : zeroA Try.prog 5 = some (1, [.int .u8 0]) := by kernel_rfl
theorem zv5 : zeroV Try.prog 5 = some (.v (.int .u8 0)) := by kernel_rfl
@[go_sem] theorem by5 : bytesT Try.prog 5 = some 1 := by kernel_rfl
@[go_sem] theorem ld9 : ldT Try.prog 9 = some (1, false) := by kernel_rfl
@[go_sem] theorem elt9 : eltT Try.prog 9 = none := by kernel_rfl
@[go_sem] theorem und9 : Try.prog.underlying 9 = some (.string) := by kernel_rfl
@[go_sem] theorem zr9 : zeroA Try.prog 9 = some (1, [.string ⟨#[]⟩]) := by kernel_rfl
theorem zv9 : zeroV Try.prog 9 = some (.v (.string ⟨#[]⟩)) := by kernel_rfl
@[go_sem] theorem by9 : bytesT Try.prog 9 = some 16 := by kernel_rfl
@[go_sem] theorem ld22 : ldT Try.prog 22 = some (1, false) := by kernel_rfl
@[go_sem] theorem elt22 : eltT Try.prog 22 = some (1, false) := by kernel_rfl
@[go_sem] theorem und22 : Try.prog.underlying 22 = some (.slice 3) := by kernel_rfl
@[go_sem] theorem zr22 : zeroA Try.prog 22 = some (1, [.slice none 0 0]) := by kernel_rfl
theorem zv22 : zeroV Try.prog 22 = some (.v (.slice none 0 0)) := by kernel_rfl
@[go_sem] theorem by22 : bytesT Try.prog 22 = some 24 := by kernel_rfl
@[go_sem] theorem ld24 : ldT Try.prog 24 = some (5, true) := by kernel_rfl
@[go_sem] theorem zr24 : zeroA Try.prog 24 = some (5, [.int .i64 0, .slice none 0 0, .int .i64 0, .int .i64 0, .string ⟨#[]⟩]) := by kernel_rfl
theorem zv24 : zeroV Try.prog 24 = some (aggL [.v (.int .i64 0), .v (.slice none 0 0), .v (.int .i64 0), .v (.int .i64 0), .v (.string ⟨#[]⟩)]) := by kernel_rfl
@[go_sem] theorem by24 : bytesT Try.prog 24 = some 64 := by kernel_rfl
@[go_sem] theorem pl24 : placesT Try.prog 24 = some [(0, 1), (1, 1), (2, 1), (3, 1), (4, 1)] := by kernel_rfl
@[go_sem] theorem ld25 : ldT Try.prog 25 = some (1, false) := by kernel_rfl
@[go_sem] theorem elt25 : eltT Try.prog 25 = some (2, true) := by kernel_rfl
@[go_sem] theorem und25 : Try.prog.underlying 25 = some (.slice 29) := by kernel_rfl
@[go_sem] theorem zr25 : zeroA Try.prog 25 = some (1, [.slice none 0 0]) := by kernel_rfl
theorem zv25 : zeroV Try.prog 25 = some (.v (.slice none 0 0)) := by kernel_rfl
@[go_sem] theorem by25 : bytesT Try.prog 25 = some 24 := by kernel_rfl
@[go_sem] theorem ld26 : ldT Try.prog 26 = some (1, false) := by kernel_rfl
@[go_sem] theorem elt26 : eltT Try.prog 26 = some (5, true) := by kernel_rfl
@[go_sem] theorem und26 : Try.prog.underlying 26 = some (.slice 44) := by kernel_rfl
@[go_sem] theorem zr26 : zeroA Try.prog 26 = some (1, [.slice none 0 0]) := by kernel_rfl
theorem zv26 : zeroV Try.prog 26 = some (.v (.slice none 0 0)) := by kernel_rfl
@[go_sem] theorem by26 : bytesT Try.prog 26 = some 24 := by kernel_rfl
@[go_sem] theorem ld29 : ldT Try.prog 29 = some (2, true) := by kernel_rfl
@[go_sem] theorem zr29 : zeroA Try.prog 29 = some (2, [.int .i64 0, .int .i64 0]) := by kernel_rfl
theorem zv29 : zeroV Try.prog 29 = some (aggL [.v (.int .i64 0), .v (.int .i64 0)]) := by kernel_rfl
@[go_sem] theorem by29 : bytesT Try.prog 29 = some 16 := by kernel_rfl
@[go_sem] theorem eq29 : eqT Try.prog 29 = some [(0, 0), (1, 0)] := by kernel_rfl
@[go_sem] theorem pl29 : placesT Try.prog 29 = some [(0, 1), (1, 1)] := by kernel_rfl
@[go_sem] theorem ld30 : ldT Try.prog 30 = some (1, false) := by kernel_rfl
@[go_sem] theorem und30 : Try.prog.underlying 30 = some (.int .i64) := by kernel_rfl
@[go_sem] theorem zr30 : zeroA Try.prog 30 = some (1, [.int .i64 0]) := by kernel_rfl
theorem zv30 : zeroV Try.prog 30 = some (.v (.int .i64 0)) := by kernel_rfl
@[go_sem] theorem by30 : bytesT Try.prog 30 = some 8 := by kernel_rfl
@[go_sem] theorem ld37 : ldT Try.prog 37 = some (1, false) := by kernel_rfl
@[go_sem] theorem elt37 : eltT Try.prog 37 = some (5, true) := by kernel_rfl
@[go_sem] theorem und37 : Try.prog.underlying 37 = some (.slice 24) := by kernel_rfl
@[go_sem] theorem zr37 : zeroA Try.prog 37 = some (1, [.slice none 0 0]) := by kernel_rfl
theorem zv37 : zeroV Try.prog 37 = some (.v (.slice none 0 0)) := by kernel_rfl
@[go_sem] theorem by37 : bytesT Try.prog 37 = some 24 := by kernel_rfl
@[go_sem] theorem ld42 : ldT Try.prog 42 = some (1, false) := by kernel_rfl
@[go_sem] theorem elt42 : eltT Try.prog 42 = some (2, true) := by kernel_rfl
@[go_sem] theorem und42 : Try.prog.underlying 42 = some (.slice 67) := by kernel_rfl
@[go_sem] theorem zr42 : zeroA Try.prog 42 = some (1, [.slice none 0 0]) := by kernel_rfl
theorem zv42 : zeroV Try.prog 42 = some (.v (.slice none 0 0)) := by kernel_rfl
@[go_sem] theorem by42 : bytesT Try.prog 42 = some 24 := by kernel_rfl
@[go_sem] theorem ld44 : ldT Try.prog 44 = some (5, true) := by kernel_rfl
@[go_sem] theorem zr44 : zeroA Try.prog 44 = some (5, [.string ⟨#[]⟩, .int .i64 0, .int .i64 0, .bool false, .slice none 0 0]) := by kernel_rfl
theorem zv44 : zeroV Try.prog 44 = some (aggL [.v (.string ⟨#[]⟩), .v (.int .i64 0), .v (.int .i64 0), .v (.bool false), .v (.slice none 0 0)]) := by kernel_rfl
@[go_sem] theorem by44 : bytesT Try.prog 44 = some 64 := by kernel_rfl
@[go_sem] theorem pl44 : placesT Try.prog 44 = some [(0, 1), (1, 1), (2, 1), (3, 1), (4, 1)] := by kernel_rfl
@[go_sem] theorem ld54 : ldT Try.prog 54 = some (1, false) := by kernel_rfl
@[go_sem] theorem zr54 : zeroA Try.prog 54 = some (1, [.nilFunc]) := by kernel_rfl
theorem zv54 : zeroV Try.prog 54 = some (.v (.nilFunc)) := by kernel_rfl
@[go_sem] theorem by54 : bytesT Try.prog 54 = some 8 := by kernel_rfl
@[go_sem] theorem ld58 : ldT Try.prog 58 = some (1, false) := by kernel_rfl
@[go_sem] theorem elt58 : eltT Try.prog 58 = some (6, true) := by kernel_rfl
@[go_sem] theorem und58 : Try.prog.underlying 58 = some (.slice 91) := by kernel_rfl
@[go_sem] theorem zr58 : zeroA Try.prog 58 = some (1, [.slice none 0 0]) := by kernel_rfl
theorem zv58 : zeroV Try.prog 58 = some (.v (.slice none 0 0)) := by kernel_rfl
@[go_sem] theorem by58 : bytesT Try.prog 58 = some 24 := by kernel_rfl
@[go_sem] theorem ld62 : ldT Try.prog 62 = some (1, false) := by kernel_rfl
@[go_sem] theorem zr62 : zeroA Try.prog 62 = some (1, [.nilFunc]) := by kernel_rfl
theorem zv62 : zeroV Try.prog 62 = some (.v (.nilFunc)) := by kernel_rfl
@[go_sem] theorem by62 : bytesT Try.prog 62 = some 8 := by kernel_rfl
@[go_sem] theorem ld67 : ldT Try.prog 67 = some (2, true) := by kernel_rfl
@[go_sem] theorem zr67 : zeroA Try.prog 67 = some (2, [.int .i64 0, .int .i64 0]) := by kernel_rfl
theorem zv67 : zeroV Try.prog 67 = some (aggL [.v (.int .i64 0), .v (.int .i64 0)]) := by kernel_rfl
@[go_sem] theorem by67 : bytesT Try.prog 67 = some 16 := by kernel_rfl
@[go_sem] theorem pl67 : placesT Try.prog 67 = some [(0, 1), (1, 1)] := by kernel_rfl
@[go_sem] theorem ld83 : ldT Try.prog 83 = some (1, false) := by kernel_rfl
@[go_sem] theorem und83 : Try.prog.underlying 83 = some (.map 4 3) := by kernel_rfl
@[go_sem] theorem zr83 : zeroA Try.prog 83 = some (1, [.map none]) := by kernel_rfl
theorem zv83 : zeroV Try.prog 83 = some (.v (.map none)) := by kernel_rfl
theorem kt83 : keyT Try.prog 4 = 3 := by kernel_rfl
@[go_sem] theorem by83 : bytesT Try.prog 83 = some 8 := by kernel_rfl
@[go_sem] theorem ld88 : ldT Try.prog 88 = some (1, false) := by kernel_rfl
@[go_sem] theorem elt88 : eltT Try.prog 88 = some (7, true) := by kernel_rfl
@[go_sem] theorem und88 : Try.prog.underlying 88 = some (.slice 103) := by kernel_rfl
@[go_sem] theorem zr88 : zeroA Try.prog 88 = some (1, [.slice none 0 0]) := by kernel_rfl
theorem zv88 : zeroV Try.prog 88 = some (.v (.slice none 0 0)) := by kernel_rfl
@[go_sem] theorem by88 : bytesT Try.prog 88 = some 24 := by kernel_rfl
@[go_sem] theorem ld91 : ldT Try.prog 91 = some (6, true) := by kernel_rfl
@[go_sem] theorem zr91 : zeroA Try.prog 91 = some (6, [.string ⟨#[]⟩, .int .i64 0, .int .i64 0, .slice none 0 0, .slice none 0 0, .slice none 0 0]) := by kernel_rfl
theorem zv91 : zeroV Try.prog 91 = some (aggL [.v (.string ⟨#[]⟩), .v (.int .i64 0), .v (.int .i64 0), .v (.slice none 0 0), .v (.slice none 0 0), .v (.slice none 0 0)]) := by kernel_rfl
@[go_sem] theorem by91 : bytesT Try.prog 91 = some 104 := by kernel_rfl
@[go_sem] theorem pl91 : placesT Try.prog 91 = some [(0, 1), (1, 1), (2, 1), (3, 1), (4, 1), (5, 1)] := by kernel_rfl
@[go_sem] theorem ld92 : ldT Try.prog 92 = some (1, false) := by kernel_rfl
@[go_sem] theorem elt92 : eltT Try.prog 92 = some (1, false) := by kernel_rfl
@[go_sem] theorem und92 : Try.prog.underlying 92 = some (.slice 5) := by kernel_rfl
@[go_sem] theorem zr92 : zeroA Try.prog 92 = some (1, [.slice none 0 0]) := by kernel_rfl
theorem zv92 : zeroV Try.prog 92 = some (.v (.slice none 0 0)) := by kernel_rfl
@[go_sem] theorem by92 : bytesT Try.prog 92 = some 24 := by kernel_rfl
@[go_sem] theorem ld94 : ldT Try.prog 94 = some (1, false) := by kernel_rfl
@[go_sem] theorem und94 : Try.prog.underlying 94 = some (.int .u64) := by kernel_rfl
@[go_sem] theorem zr94 : zeroA Try.prog 94 = some (1, [.int .u64 0]) := by kernel_rfl
theorem zv94 : zeroV Try.prog 94 = some (.v (.int .u64 0)) := by kernel_rfl
@[go_sem] theorem by94 : bytesT Try.prog 94 = some 8 := by kernel_rfl
@[go_sem] theorem ld103 : ldT Try.prog 103 = some (7, true) := by kernel_rfl
@[go_sem] theorem zr103 : zeroA Try.prog 103 = some (7, [.string ⟨#[]⟩, .int .i64 0, .bool false, .int .i64 0, .int .i64 0, .int .i64 0, .int .i64 0]) := by kernel_rfl
theorem zv103 : zeroV Try.prog 103 = some (aggL [.v (.string ⟨#[]⟩), .v (.int .i64 0), .v (.bool false), .v (.int .i64 0), .v (.int .i64 0), .v (.int .i64 0), .v (.int .i64 0)]) := by kernel_rfl
@[go_sem] theorem by103 : bytesT Try.prog 103 = some 64 := by kernel_rfl
@[go_sem] theorem pl103 : placesT Try.prog 103 = some [(0, 1), (1, 1), (2, 1), (3, 1), (4, 1), (5, 2)] := by kernel_rfl
@[go_sem] theorem ld105 : ldT Try.prog 105 = some (1, false) := by kernel_rfl
@[go_sem] theorem und105 : Try.prog.underlying 105 = some (.int .u64) := by kernel_rfl
@[go_sem] theorem zr105 : zeroA Try.prog 105 = some (1, [.int .u64 0]) := by kernel_rfl
theorem zv105 : zeroV Try.prog 105 = some (.v (.int .u64 0)) := by kernel_rfl
@[go_sem] theorem by105 : bytesT Try.prog 105 = some 8 := by kernel_rfl
@[go_sem] theorem ld107 : ldT Try.prog 107 = some (1, false) := by kernel_rfl
@[go_sem] theorem zr107 : zeroA Try.prog 107 = some (1, [.nilIface]) := by kernel_rfl
theorem zv107 : zeroV Try.prog 107 = some (.v (.nilIface)) := by kernel_rfl
@[go_sem] theorem by107 : bytesT Try.prog 107 = some 16 := by kernel_rfl
@[go_sem] theorem ld112 : ldT Try.prog 112 = some (1, false) := by kernel_rfl
@[go_sem] theorem elt112 : eltT Try.prog 112 = some (1, false) := by kernel_rfl
@[go_sem] theorem und112 : Try.prog.underlying 112 = some (.slice 9) := by kernel_rfl
@[go_sem] theorem zr112 : zeroA Try.prog 112 = some (1, [.slice none 0 0]) := by kernel_rfl
theorem zv112 : zeroV Try.prog 112 = some (.v (.slice none 0 0)) := by kernel_rfl
@[go_sem] theorem by112 : bytesT Try.prog 112 = some 24 := by kernel_rfl
@[go_sem] theorem fld24_0 : fldT Try.prog 24 0 = some (0, 1, false) := by kernel_rfl
@[go_sem] theorem fld24_1 : fldT Try.prog 24 1 = some (1, 1, false) := by kernel_rfl
@[go_sem] theorem fld24_2 : fldT Try.prog 24 2 = some (2, 1, false) := by kernel_rfl
@[go_sem] theorem fld24_3 : fldT Try.prog 24 3 = some (3, 1, false) := by kernel_rfl
@[go_sem] theorem fld24_4 : fldT Try.prog 24 4 = some (4, 1, false) := by kernel_rfl
@[go_sem] theorem fld29_0 : fldT Try.prog 29 0 = some (0, 1, false) := by kernel_rfl
@[go_sem] theorem fld29_1 : fldT Try.prog 29 1 = some (1, 1, false) := by kernel_rfl
@[go_sem] theorem fld44_0 : fldT Try.prog 44 0 = some (0, 1, false) := by kernel_rfl
@[go_sem] theorem fld44_1 : fldT Try.prog 44 1 = some (1, 1, false) := by kernel_rfl
@[go_sem] theorem fld44_2 : fldT Try.prog 44 2 = some (2, 1, false) := by kernel_rfl
@[go_sem] theorem fld44_3 : fldT Try.prog 44 3 = some (3, 1, false) := by kernel_rfl
@[go_sem] theorem fld44_4 : fldT Try.prog 44 4 = some (4, 1, false) := by kernel_rfl
@[go_sem] theorem fld67_0 : fldT Try.prog 67 0 = some (0, 1, false) := by kernel_rfl
@[go_sem] theorem fld67_1 : fldT Try.prog 67 1 = some (1, 1, false) := by kernel_rfl
@[go_sem] theorem fld91_3 : fldT Try.prog 91 3 = some (3, 1, false) := by kernel_rfl
@[go_sem] theorem fld91_4 : fldT Try.prog 91 4 = some (4, 1, false) := by kernel_rfl
@[go_sem] theorem fld103_0 : fldT Try.prog 103 0 = some (0, 1, false) := by kernel_rfl
@[go_sem] theorem fld103_1 : fldT Try.prog 103 1 = some (1, 1, false) := by kernel_rfl
theorem nt3 : Try.f3.ntmps = 39 := rfl
theorem rs3 : Try.f3.results.toList = [.tmp 8] := rfl
@[go_sem] theorem cb3 : callable Try.prog 3 = true := by kernel_rfl
theorem nt4 : Try.f4.ntmps = 14 := rfl
theorem rs4 : Try.f4.results.toList = [.tmp 0] := rfl
@[go_sem] theorem cb4 : callable Try.prog 4 = true := by kernel_rfl
theorem nt5 : Try.f5.ntmps = 120 := rfl
theorem rs5 : Try.f5.results.toList = [.cell 8 29, .tmp 9] := rfl
@[go_sem] theorem cb5 : callable Try.prog 5 = true := by kernel_rfl
theorem nt6 : Try.f6.ntmps = 129 := rfl
theorem rs6 : Try.f6.results.toList = [.cell 8 29, .tmp 9] := rfl
@[go_sem] theorem cb6 : callable Try.prog 6 = true := by kernel_rfl
theorem nt7 : Try.f7.ntmps = 119 := rfl
theorem rs7 : Try.f7.results.toList = [.tmp 4, .tmp 5] := rfl
@[go_sem] theorem cb7 : callable Try.prog 7 = true := by kernel_rfl
theorem nt8 : Try.f8.ntmps = 3 := rfl
theorem rs8 : Try.f8.results.toList = [.tmp 0] := rfl
@[go_sem] theorem cb8 : callable Try.prog 8 = true := by kernel_rfl
theorem nt9 : Try.f9.ntmps = 21 := rfl
theorem rs9 : Try.f9.results.toList = [.tmp 2] := rfl
@[go_sem] theorem cb9 : callable Try.prog 9 = true := by kernel_rfl
theorem nt10 : Try.f10.ntmps = 27 := rfl
theorem rs10 : Try.f10.results.toList = [.tmp 2] := rfl
@[go_sem] theorem cb10 : callable Try.prog 10 = true := by kernel_rfl
theorem nt11 : Try.f11.ntmps = 38 := rfl
theorem rs11 : Try.f11.results.toList = [.tmp 2] := rfl
@[go_sem] theorem cb11 : callable Try.prog 11 = true := by kernel_rfl
theorem nt12 : Try.f12.ntmps = 21 := rfl
theorem rs12 : Try.f12.results.toList = [.cell 4 44, .tmp 5] := rfl
@[go_sem] theorem cb12 : callable Try.prog 12 = true := by kernel_rfl
theorem nt13 : Try.f13.ntmps = 89 := rfl
theorem rs13 : Try.f13.results.toList = [.tmp 2] := rfl
@[go_sem] theorem cb13 : callable Try.prog 13 = true := by kernel_rfl
theorem nt14 : Try.f14.ntmps = 170 := rfl
theorem rs14 : Try.f14.results.toList = [.tmp 6, .tmp 7] := rfl
@[go_sem] theorem cb14 : callable Try.prog 14 = true := by kernel_rfl
theorem nt15 : Try.f15.ntmps = 52 := rfl
theorem rs15 : Try.f15.results.toList = [.cell 4 29, .tmp 5] := rfl
@[go_sem] theorem cb15 : callable Try.prog 15 = true := by kernel_rfl
theorem nt16 : Try.f16.ntmps = 155 := rfl
theorem rs16 : Try.f16.results.toList = [.cell 6 29] := rfl
@[go_sem] theorem cb16 : callable Try.prog 16 = true := by kernel_rfl
theorem nt17 : Try.f17.ntmps = 13 := rfl
theorem rs17 : Try.f17.results.toList = [.tmp 2] := rfl
@[go_sem] theorem cb17 : callable Try.prog 17 = true := by kernel_rfl
theorem nt18 : Try.f18.ntmps = 19 := rfl
theorem rs18 : Try.f18.results.toList = [.tmp 4] := rfl
@[go_sem] theorem cb18 : callable Try.prog 18 = true := by kernel_rfl
theorem nt19 : Try.f19.ntmps = 9 := rfl
theorem rs19 : Try.f19.results.toList = [.tmp 3] := rfl
@[go_sem] theorem cb19 : callable Try.prog 19 = true := by kernel_rfl
theorem nt20 : Try.f20.ntmps = 42 := rfl
theorem rs20 : Try.f20.results.toList = [.tmp 8] := rfl
@[go_sem] theorem cb20 : callable Try.prog 20 = true := by kernel_rfl
theorem nt21 : Try.f21.ntmps = 224 := rfl
theorem rs21 : Try.f21.results.toList = [.cell 10 29] := rfl
@[go_sem] theorem cb21 : callable Try.prog 21 = true := by kernel_rfl
theorem nt22 : Try.f22.ntmps = 57 := rfl
theorem rs22 : Try.f22.results.toList = [.tmp 2] := rfl
@[go_sem] theorem cb22 : callable Try.prog 22 = true := by kernel_rfl
theorem nt23 : Try.f23.ntmps = 56 := rfl
theorem rs23 : Try.f23.results.toList = [.tmp 4, .tmp 5] := rfl
@[go_sem] theorem cb23 : callable Try.prog 23 = true := by kernel_rfl
theorem nt24 : Try.f24.ntmps = 32 := rfl
theorem rs24 : Try.f24.results.toList = [.tmp 2] := rfl
@[go_sem] theorem cb24 : callable Try.prog 24 = true := by kernel_rfl
theorem nt25 : Try.f25.ntmps = 9 := rfl
theorem rs25 : Try.f25.results.toList = [.tmp 2] := rfl
@[go_sem] theorem cb25 : callable Try.prog 25 = true := by kernel_rfl
theorem nt26 : Try.f26.ntmps = 17 := rfl
theorem rs26 : Try.f26.results.toList = [.tmp 2, .tmp 3] := rfl
@[go_sem] theorem cb26 : callable Try.prog 26 = true := by kernel_rfl
theorem nt27 : Try.f27.ntmps = 9 := rfl
theorem rs27 : Try.f27.results.toList = [.tmp 2] := rfl
@[go_sem] theorem cb27 : callable Try.prog 27 = true := by kernel_rfl
theorem nt28 : Try.f28.ntmps = 44 := rfl
theorem rs28 : Try.f28.results.toList = [.tmp 2] := rfl
@[go_sem] theorem cb28 : callable Try.prog 28 = true := by kernel_rfl
theorem nt29 : Try.f29.ntmps = 50 := rfl
theorem rs29 : Try.f29.results.toList = [.tmp 2] := rfl
@[go_sem] theorem cb29 : callable Try.prog 29 = true := by kernel_rfl
theorem nt30 : Try.f30.ntmps = 19 := rfl
theorem rs30 : Try.f30.results.toList = [.tmp 4] := rfl
@[go_sem] theorem cb30 : callable Try.prog 30 = true := by kernel_rfl
theorem nt31 : Try.f31.ntmps = 19 := rfl
theorem rs31 : Try.f31.results.toList = [.tmp 4, .tmp 5] := rfl
@[go_sem] theorem cb31 : callable Try.prog 31 = true := by kernel_rfl
theorem nt32 : Try.f32.ntmps = 48 := rfl
theorem rs32 : Try.f32.results.toList = [.tmp 6, .tmp 7] := rfl
@[go_sem] theorem cb32 : callable Try.prog 32 = true := by kernel_rfl
theorem nt33 : Try.f33.ntmps = 35 := rfl
theorem rs33 : Try.f33.results.toList = [.tmp 4, .tmp 5] := rfl
@[go_sem] theorem cb33 : callable Try.prog 33 = true := by kernel_rfl
theorem nt34 : Try.f34.ntmps = 10 := rfl
theorem rs34 : Try.f34.results.toList = [.cell 2 29] := rfl
@[go_sem] theorem cb34 : callable Try.prog 34 = true := by kernel_rfl
theorem nt35 : Try.f35.ntmps = 9 := rfl
theorem rs35 : Try.f35.results.toList = [.tmp 2] := rfl
@[go_sem] theorem cb35 : callable Try.prog 35 = true := by kernel_rfl
theorem nt36 : Try.f36.ntmps = 9 := rfl
theorem rs36 : Try.f36.results.toList = [.tmp 2] := rfl
@[go_sem] theorem cb36 : callable Try.prog 36 = true := by kernel_rfl
theorem nt37 : Try.f37.ntmps = 23 := rfl
theorem rs37 : Try.f37.results.toList = [.tmp 4] := rfl
@[go_sem] theorem cb37 : callable Try.prog 37 = true := by kernel_rfl
theorem nt38 : Try.f38.ntmps = 11 := rfl
theorem rs38 : Try.f38.results.toList = [.tmp 4] := rfl
@[go_sem] theorem cb38 : callable Try.prog 38 = true := by kernel_rfl
theorem nt39 : Try.f39.ntmps = 20 := rfl
theorem rs39 : Try.f39.results.toList = [.cell 6 29] := rfl
@[go_sem] theorem cb39 : callable Try.prog 39 = true := by kernel_rfl
theorem nt40 : Try.f40.ntmps = 6 := rfl
theorem rs40 : Try.f40.results.toList = [.cell 2 29] := rfl
@[go_sem] theorem cb40 : callable Try.prog 40 = true := by kernel_rfl
theorem nt41 : Try.f41.ntmps = 53 := rfl
theorem rs41 : Try.f41.results.toList = [.cell 4 29, .tmp 5] := rfl
@[go_sem] theorem cb41 : callable Try.prog 41 = true := by kernel_rfl
theorem nt42 : Try.f42.ntmps = 63 := rfl
theorem rs42 : Try.f42.results.toList = [.cell 4 29, .tmp 5] := rfl
@[go_sem] theorem cb42 : callable Try.prog 42 = true := by kernel_rfl
theorem nt43 : Try.f43.ntmps = 74 := rfl
theorem rs43 : Try.f43.results.toList = [.cell 4 29, .tmp 5] := rfl
@[go_sem] theorem cb43 : callable Try.prog 43 = true := by kernel_rfl
theorem nt44 : Try.f44.ntmps = 25 := rfl
theorem rs44 : Try.f44.results.toList = [.cell 2 29] := rfl
@[go_sem] theorem cb44 : callable Try.prog 44 = true := by kernel_rfl
theorem nt45 : Try.f45.ntmps = 88 := rfl
theorem rs45 : Try.f45.results.toList = [.tmp 4] := rfl
@[go_sem] theorem cb45 : callable Try.prog 45 = true := by kernel_rfl
theorem nt46 : Try.f46.ntmps = 87 := rfl
theorem rs46 : Try.f46.results.toList = [.tmp 6, .tmp 7] := rfl
@[go_sem] theorem cb46 : callable Try.prog 46 = true := by kernel_rfl
theorem nt47 : Try.f47.ntmps = 59 := rfl
theorem rs47 : Try.f47.results.toList = [.tmp 4] := rfl
@[go_sem] theorem cb47 : callable Try.prog 47 = true := by kernel_rfl
theorem nt48 : Try.f48.ntmps = 19 := rfl
theorem rs48 : Try.f48.results.toList = [.tmp 4] := rfl
@[go_sem] theorem cb48 : callable Try.prog 48 = true := by kernel_rfl
theorem nt49 : Try.f49.ntmps = 182 := rfl
theorem rs49 : Try.f49.results.toList = [.tmp 8, .tmp 9] := rfl
@[go_sem] theorem cb49 : callable Try.prog 49 = true := by kernel_rfl
theorem nt50 : Try.f50.ntmps = 8 := rfl
theorem rs50 : Try.f50.results.toList = [.tmp 2] := rfl
@[go_sem] theorem cb50 : callable Try.prog 50 = true := by kernel_rfl
theorem nt51 : Try.f51.ntmps = 8 := rfl
theorem rs51 : Try.f51.results.toList = [.cell 2 29] := rfl
@[go_sem] theorem cb51 : callable Try.prog 51 = true := by kernel_rfl
theorem nt52 : Try.f52.ntmps = 9 := rfl
theorem rs52 : Try.f52.results.toList = [.tmp 4] := rfl
@[go_sem] theorem cb52 : callable Try.prog 52 = true := by kernel_rfl
theorem nt53 : Try.f53.ntmps = 21 := rfl
theorem rs53 : Try.f53.results.toList = [.cell 4 29] := rfl
@[go_sem] theorem cb53 : callable Try.prog 53 = true := by kernel_rfl
theorem nt54 : Try.f54.ntmps = 49 := rfl
theorem rs54 : Try.f54.results.toList = [.tmp 4] := rfl
@[go_sem] theorem cb54 : callable Try.prog 54 = true := by kernel_rfl
theorem nt55 : Try.f55.ntmps = 104 := rfl
theorem rs55 : Try.f55.results.toList = [.tmp 4] := rfl
@[go_sem] theorem cb55 : callable Try.prog 55 = true := by kernel_rfl
theorem nt56 : Try.f56.ntmps = 31 := rfl
theorem rs56 : Try.f56.results.toList = [.tmp 4, .tmp 5] := rfl
@[go_sem] theorem cb56 : callable Try.prog 56 = true := by kernel_rfl
theorem nt57 : Try.f57.ntmps = 10 := rfl
theorem rs57 : Try.f57.results.toList = [.tmp 2] := rfl
@[go_sem] theorem cb57 : callable Try.prog 57 = true := by kernel_rfl
theorem nt58 : Try.f58.ntmps = 9 := rfl
theorem rs58 : Try.f58.results.toList = [.cell 4 29] := rfl
@[go_sem] theorem cb58 : callable Try.prog 58 = true := by kernel_rfl
theorem nt59 : Try.f59.ntmps = 59 := rfl
theorem rs59 : Try.f59.results.toList = [.tmp 6] := rfl
@[go_sem] theorem cb59 : callable Try.prog 59 = true := by kernel_rfl
theorem nt60 : Try.f60.ntmps = 11 := rfl
theorem rs60 : Try.f60.results.toList = [.tmp 4] := rfl
@[go_sem] theorem cb60 : callable Try.prog 60 = true := by kernel_rfl
theorem nt61 : Try.f61.ntmps = 47 := rfl
theorem rs61 : Try.f61.results.toList = [.tmp 4] := rfl
@[go_sem] theorem cb61 : callable Try.prog 61 = true := by kernel_rfl
theorem nt62 : Try.f62.ntmps = 51 := rfl
theorem rs62 : Try.f62.results.toList = [.tmp 4, .tmp 5] := rfl
@[go_sem] theorem cb62 : callable Try.prog 62 = true := by kernel_rfl
@[go_sem] theorem cb63 : callable Try.prog 63 = false := by kernel_rfl
theorem nt64 : Try.f64.ntmps = 135 := rfl
theorem rs64 : Try.f64.results.toList = [.tmp 6, .tmp 7] := rfl
@[go_sem] theorem cb64 : callable Try.prog 64 = true := by kernel_rfl
theorem nt65 : Try.f65.ntmps = 9 := rfl
theorem rs65 : Try.f65.results.toList = [.tmp 2] := rfl
@[go_sem] theorem cb65 : callable Try.prog 65 = true := by kernel_rfl
theorem nt66 : Try.f66.ntmps = 17 := rfl
theorem rs66 : Try.f66.results.toList = [.tmp 4] := rfl
@[go_sem] theorem cb66 : callable Try.prog 66 = true := by kernel_rfl
theorem nt67 : Try.f67.ntmps = 6 := rfl
theorem rs67 : Try.f67.results.toList = [.tmp 2] := rfl
@[go_sem] theorem cb67 : callable Try.prog 67 = true := by kernel_rfl
theorem nt68 : Try.f68.ntmps = 49 := rfl
theorem rs68 : Try.f68.results.toList = [.tmp 2, .tmp 3, .tmp 4] := rfl
@[go_sem] theorem cb68 : callable Try.prog 68 = true := by kernel_rfl
theorem nt69 : Try.f69.ntmps = 23 := rfl
theorem rs69 : Try.f69.results.toList = [.tmp 2] := rfl
@[go_sem] theorem cb69 : callable Try.prog 69 = true := by kernel_rfl
theorem nt70 : Try.f70.ntmps = 9 := rfl
theorem rs70 : Try.f70.results.toList = [.tmp 4] := rfl
@[go_sem] theorem cb70 : callable Try.prog 70 = true := by kernel_rfl
theorem nt71 : Try.f71.ntmps = 5 := rfl
theorem rs71 : Try.f71.results.toList = [.tmp 2] := rfl
@[go_sem] theorem cb71 : callable Try.prog 71 = true := by kernel_rfl
theorem nt72 : Try.f72.ntmps = 12 := rfl
theorem rs72 : Try.f72.results.toList = [.tmp 6] := rfl
@[go_sem] theorem cb72 : callable Try.prog 72 = true := by kernel_rfl
theorem nt73 : Try.f73.ntmps = 11 := rfl
theorem rs73 : Try.f73.results.toList = [.tmp 3] := rfl
@[go_sem] theorem cb73 : callable Try.prog 73 = true := by kernel_rfl
theorem nt74 : Try.f74.ntmps = 17 := rfl
theorem rs74 : Try.f74.results.toList = [.tmp 2] := rfl
@[go_sem] theorem cb74 : callable Try.prog 74 = true := by kernel_rfl
theorem nt75 : Try.f75.ntmps = 38 := rfl
theorem rs75 : Try.f75.results.toList = [.tmp 2] := rfl
@[go_sem] theorem cb75 : callable Try.prog 75 = true := by kernel_rfl
theorem nt76 : Try.f76.ntmps = 8 := rfl
theorem rs76 : Try.f76.results.toList = [.tmp 2] := rfl
@[go_sem] theorem cb76 : callable Try.prog 76 = true := by kernel_rfl
theorem nt77 : Try.f77.ntmps = 6 := rfl
theorem rs77 : Try.f77.results.toList = [.tmp 2] := rfl
@[go_sem] theorem cb77 : callable Try.prog 77 = true := by kernel_rfl
theorem nt78 : Try.f78.ntmps = 18 := rfl
theorem rs78 : Try.f78.results.toList = [.tmp 2] := rfl
@[go_sem] theorem cb78 : callable Try.prog 78 = true := by kernel_rfl
theorem nt79 : Try.f79.ntmps = 21 := rfl
theorem rs79 : Try.f79.results.toList = [.tmp 4] := rfl
@[go_sem] theorem cb79 : callable Try.prog 79 = true := by kernel_rfl
theorem nt80 : Try.f80.ntmps = 18 := rfl
theorem rs80 : Try.f80.results.toList = [.tmp 2] := rfl
@[go_sem] theorem cb80 : callable Try.prog 80 = true := by kernel_rfl
theorem nt81 : Try.f81.ntmps = 19 := rfl
theorem rs81 : Try.f81.results.toList = [.tmp 4] := rfl
@[go_sem] theorem cb81 : callable Try.prog 81 = true := by kernel_rfl
theorem nt82 : Try.f82.ntmps = 9 := rfl
theorem rs82 : Try.f82.results.toList = [.tmp 2] := rfl
@[go_sem] theorem cb82 : callable Try.prog 82 = true := by kernel_rfl
theorem nt83 : Try.f83.ntmps = 13 := rfl
theorem rs83 : Try.f83.results.toList = [.tmp 2] := rfl
@[go_sem] theorem cb83 : callable Try.prog 83 = true := by kernel_rfl
theorem nt84 : Try.f84.ntmps = 54 := rfl
theorem rs84 : Try.f84.results.toList = [.tmp 4, .tmp 5] := rfl
@[go_sem] theorem cb84 : callable Try.prog 84 = true := by kernel_rfl
theorem nt85 : Try.f85.ntmps = 2 := rfl
theorem rs85 : Try.f85.results.toList = [.tmp 0] := rfl
@[go_sem] theorem cb85 : callable Try.prog 85 = true := by kernel_rfl
theorem nt86 : Try.f86.ntmps = 25 := rfl
theorem rs86 : Try.f86.results.toList = [.tmp 2] := rfl
@[go_sem] theorem cb86 : callable Try.prog 86 = true := by kernel_rfl
theorem nt87 : Try.f87.ntmps = 16 := rfl
theorem rs87 : Try.f87.results.toList = [.tmp 2] := rfl
@[go_sem] theorem cb87 : callable Try.prog 87 = true := by kernel_rfl
theorem nt88 : Try.f88.ntmps = 9 := rfl
theorem rs88 : Try.f88.results.toList = [.tmp 2] := rfl
@[go_sem] theorem cb88 : callable Try.prog 88 = true := by kernel_rfl
theorem nt89 : Try.f89.ntmps = 17 := rfl
theorem rs89 : Try.f89.results.toList = [.tmp 4] := rfl
@[go_sem] theorem cb89 : callable Try.prog 89 = true := by kernel_rfl
theorem nt90 : Try.f90.ntmps = 6 := rfl
theorem rs90 : Try.f90.results.toList = [.tmp 2] := rfl
@[go_sem] theorem cb90 : callable Try.prog 90 = true := by kernel_rfl
theorem nt91 : Try.f91.ntmps = 6 := rfl
theorem rs91 : Try.f91.results.toList = [.tmp 2] := rfl
@[go_sem] theorem cb91 : callable Try.prog 91 = true := by kernel_rfl
theorem mixed : Try.prog.follows .mixedOrders = true := by kernel_rfl
end Go.Proofs.Ytmalhikcdideoaa
