/- Closed facts on the program: its types, its functions. -/
import Derived.Test.YtmalhikcdideoaaGreatDoorSlV
import Derived.Test.YtmalhikcdideoaaGreatDoorProg
import Derived.KernelRfl
namespace Go.Proofs.YtmalhikcdideoaaGreatDoor
open Go Sl
@[go_sem] theorem ld2 : ldT Tryz.prog 2 = some (1, false) := by kernel_rfl
@[go_sem] theorem und2 : Tryz.prog.underlying 2 = some (.int .i64) := by kernel_rfl
@[go_sem] theorem zr2 : zeroA Tryz.prog 2 = some (1, [.int .i64 0]) := by kernel_rfl
theorem zv2 : zeroV Tryz.prog 2 = some (.v (.int .i64 0)) := by kernel_rfl
@[go_sem] theorem by2 : bytesT Tryz.prog 2 = some 8 := by kernel_rfl
@[go_sem] theorem ld3 : ldT Tryz.prog 3 = some (1, false) := by kernel_rfl
@[go_sem] theorem und3 : Tryz.prog.underlying 3 = some (.int .i64) := by kernel_rfl
@[go_sem] theorem zr3 : zeroA Tryz.prog 3 = some (1, [.int .i64 0]) := by kernel_rfl
theorem zv3 : zeroV Tryz.prog 3 = some (.v (.int .i64 0)) := by kernel_rfl
@[go_sem] theorem by3 : bytesT Tryz.prog 3 = some 8 := by kernel_rfl
@[go_sem] theorem ld4 : ldT Tryz.prog 4 = some (1, false) := by kernel_rfl
@[go_sem] theorem und4 : Tryz.prog.underlying 4 = some (.bool) := by kernel_rfl
@[go_sem] theorem zr4 : zeroA Tryz.prog 4 = some (1, [.bool false]) := by kernel_rfl
theorem zv4 : zeroV Tryz.prog 4 = some (.v (.bool false)) := by kernel_rfl
@[go_sem] theorem by4 : bytesT Tryz.prog 4 = some 1 := by kernel_rfl
@[go_sem] theorem ld5 : ldT Tryz.prog 5 = some (1, false) := by kernel_rfl
@[go_sem] theorem und5 : Tryz.prog.underlying 5 = some (.int .u8) := by kernel_rfl
@[go_sem] theorem zr5 : zeroA Tryz.prog 5 = some (1, [.int .u8 0]) := by kernel_rfl
theorem zv5 : zeroV Tryz.prog 5 = some (.v (.int .u8 0)) := by kernel_rfl
@[go_sem] theorem by5 : bytesT Tryz.prog 5 = some 1 := by kernel_rfl
@[go_sem] theorem ld9 : ldT Tryz.prog 9 = some (1, false) := by kernel_rfl
@[go_sem] theorem elt9 : eltT Tryz.prog 9 = none := by kernel_rfl
@[go_sem] theorem und9 : Tryz.prog.underlying 9 = some (.string) := by kernel_rfl
@[go_sem] theorem zr9 : zeroA Tryz.prog 9 = some (1, [.string ⟨#[]⟩]) := by kernel_rfl
theorem zv9 : zeroV Tryz.prog 9 = some (.v (.string ⟨#[]⟩)) := by kernel_rfl
@[go_sem] theorem by9 : bytesT Tryz.prog 9 = some 16 := by kernel_rfl
@[go_sem] theorem ld21 : ldT Tryz.prog 21 = some (1, false) := by kernel_rfl
@[go_sem] theorem und21 : Tryz.prog.underlying 21 = some (.int .i32) := by kernel_rfl
@[go_sem] theorem zr21 : zeroA Tryz.prog 21 = some (1, [.int .i32 0]) := by kernel_rfl
theorem zv21 : zeroV Tryz.prog 21 = some (.v (.int .i32 0)) := by kernel_rfl
@[go_sem] theorem by21 : bytesT Tryz.prog 21 = some 4 := by kernel_rfl
@[go_sem] theorem ld23 : ldT Tryz.prog 23 = some (1, false) := by kernel_rfl
@[go_sem] theorem elt23 : eltT Tryz.prog 23 = some (6, true) := by kernel_rfl
@[go_sem] theorem und23 : Tryz.prog.underlying 23 = some (.slice 37) := by kernel_rfl
@[go_sem] theorem zr23 : zeroA Tryz.prog 23 = some (1, [.slice none 0 0]) := by kernel_rfl
theorem zv23 : zeroV Tryz.prog 23 = some (.v (.slice none 0 0)) := by kernel_rfl
@[go_sem] theorem by23 : bytesT Tryz.prog 23 = some 24 := by kernel_rfl
@[go_sem] theorem ld25 : ldT Tryz.prog 25 = some (2, true) := by kernel_rfl
@[go_sem] theorem zr25 : zeroA Tryz.prog 25 = some (2, [.string ⟨#[]⟩, .string ⟨#[]⟩]) := by kernel_rfl
theorem zv25 : zeroV Tryz.prog 25 = some (aggL [.v (.string ⟨#[]⟩), .v (.string ⟨#[]⟩)]) := by kernel_rfl
@[go_sem] theorem by25 : bytesT Tryz.prog 25 = some 32 := by kernel_rfl
@[go_sem] theorem eq25 : eqU Tryz.prog 25 = some [(0, 1), (1, 1)] := by kernel_rfl
@[go_sem] theorem pl25 : placesT Tryz.prog 25 = some [(0, 1), (1, 1)] := by kernel_rfl
@[go_sem] theorem ld27 : ldT Tryz.prog 27 = some (1, false) := by kernel_rfl
@[go_sem] theorem und27 : Tryz.prog.underlying 27 = some (.int .i64) := by kernel_rfl
@[go_sem] theorem zr27 : zeroA Tryz.prog 27 = some (1, [.int .i64 0]) := by kernel_rfl
theorem zv27 : zeroV Tryz.prog 27 = some (.v (.int .i64 0)) := by kernel_rfl
@[go_sem] theorem by27 : bytesT Tryz.prog 27 = some 8 := by kernel_rfl
@[go_sem] theorem ld33 : ldT Tryz.prog 33 = some (1, false) := by kernel_rfl
@[go_sem] theorem elt33 : eltT Tryz.prog 33 = some (7, true) := by kernel_rfl
@[go_sem] theorem und33 : Tryz.prog.underlying 33 = some (.slice 99) := by kernel_rfl
@[go_sem] theorem zr33 : zeroA Tryz.prog 33 = some (1, [.slice none 0 0]) := by kernel_rfl
theorem zv33 : zeroV Tryz.prog 33 = some (.v (.slice none 0 0)) := by kernel_rfl
@[go_sem] theorem by33 : bytesT Tryz.prog 33 = some 24 := by kernel_rfl
@[go_sem] theorem ld34 : ldT Tryz.prog 34 = some (1, false) := by kernel_rfl
@[go_sem] theorem elt34 : eltT Tryz.prog 34 = some (5, true) := by kernel_rfl
@[go_sem] theorem und34 : Tryz.prog.underlying 34 = some (.slice 43) := by kernel_rfl
@[go_sem] theorem zr34 : zeroA Tryz.prog 34 = some (1, [.slice none 0 0]) := by kernel_rfl
theorem zv34 : zeroV Tryz.prog 34 = some (.v (.slice none 0 0)) := by kernel_rfl
@[go_sem] theorem by34 : bytesT Tryz.prog 34 = some 24 := by kernel_rfl
@[go_sem] theorem ld35 : ldT Tryz.prog 35 = some (1, false) := by kernel_rfl
@[go_sem] theorem elt35 : eltT Tryz.prog 35 = some (6, true) := by kernel_rfl
@[go_sem] theorem und35 : Tryz.prog.underlying 35 = some (.slice 50) := by kernel_rfl
@[go_sem] theorem zr35 : zeroA Tryz.prog 35 = some (1, [.slice none 0 0]) := by kernel_rfl
theorem zv35 : zeroV Tryz.prog 35 = some (.v (.slice none 0 0)) := by kernel_rfl
@[go_sem] theorem by35 : bytesT Tryz.prog 35 = some 24 := by kernel_rfl
@[go_sem] theorem ld37 : ldT Tryz.prog 37 = some (6, true) := by kernel_rfl
@[go_sem] theorem zr37 : zeroA Tryz.prog 37 = some (6, [.string ⟨#[]⟩, .int .i64 0, .int .i64 0, .slice none 0 0, .slice none 0 0, .slice none 0 0]) := by kernel_rfl
theorem zv37 : zeroV Tryz.prog 37 = some (aggL [.v (.string ⟨#[]⟩), .v (.int .i64 0), .v (.int .i64 0), .v (.slice none 0 0), .v (.slice none 0 0), .v (.slice none 0 0)]) := by kernel_rfl
@[go_sem] theorem by37 : bytesT Tryz.prog 37 = some 104 := by kernel_rfl
@[go_sem] theorem pl37 : placesT Tryz.prog 37 = some [(0, 1), (1, 1), (2, 1), (3, 1), (4, 1), (5, 1)] := by kernel_rfl
@[go_sem] theorem ld41 : ldT Tryz.prog 41 = some (1, false) := by kernel_rfl
@[go_sem] theorem elt41 : eltT Tryz.prog 41 = some (2, true) := by kernel_rfl
@[go_sem] theorem und41 : Tryz.prog.underlying 41 = some (.slice 128) := by kernel_rfl
@[go_sem] theorem zr41 : zeroA Tryz.prog 41 = some (1, [.slice none 0 0]) := by kernel_rfl
theorem zv41 : zeroV Tryz.prog 41 = some (.v (.slice none 0 0)) := by kernel_rfl
@[go_sem] theorem by41 : bytesT Tryz.prog 41 = some 24 := by kernel_rfl
@[go_sem] theorem ld43 : ldT Tryz.prog 43 = some (5, true) := by kernel_rfl
@[go_sem] theorem zr43 : zeroA Tryz.prog 43 = some (5, [.string ⟨#[]⟩, .int .i64 0, .int .i64 0, .bool false, .slice none 0 0]) := by kernel_rfl
theorem zv43 : zeroV Tryz.prog 43 = some (aggL [.v (.string ⟨#[]⟩), .v (.int .i64 0), .v (.int .i64 0), .v (.bool false), .v (.slice none 0 0)]) := by kernel_rfl
@[go_sem] theorem by43 : bytesT Tryz.prog 43 = some 64 := by kernel_rfl
@[go_sem] theorem pl43 : placesT Tryz.prog 43 = some [(0, 1), (1, 1), (2, 1), (3, 1), (4, 1)] := by kernel_rfl
@[go_sem] theorem ld47 : ldT Tryz.prog 47 = some (1, false) := by kernel_rfl
@[go_sem] theorem elt47 : eltT Tryz.prog 47 = some (5, true) := by kernel_rfl
@[go_sem] theorem und47 : Tryz.prog.underlying 47 = some (.slice 65) := by kernel_rfl
@[go_sem] theorem zr47 : zeroA Tryz.prog 47 = some (1, [.slice none 0 0]) := by kernel_rfl
theorem zv47 : zeroV Tryz.prog 47 = some (.v (.slice none 0 0)) := by kernel_rfl
@[go_sem] theorem by47 : bytesT Tryz.prog 47 = some 24 := by kernel_rfl
@[go_sem] theorem ld48 : ldT Tryz.prog 48 = some (1, false) := by kernel_rfl
@[go_sem] theorem elt48 : eltT Tryz.prog 48 = some (2, true) := by kernel_rfl
@[go_sem] theorem und48 : Tryz.prog.underlying 48 = some (.slice 25) := by kernel_rfl
@[go_sem] theorem zr48 : zeroA Tryz.prog 48 = some (1, [.slice none 0 0]) := by kernel_rfl
theorem zv48 : zeroV Tryz.prog 48 = some (.v (.slice none 0 0)) := by kernel_rfl
@[go_sem] theorem by48 : bytesT Tryz.prog 48 = some 24 := by kernel_rfl
@[go_sem] theorem ld50 : ldT Tryz.prog 50 = some (6, true) := by kernel_rfl
@[go_sem] theorem zr50 : zeroA Tryz.prog 50 = some (6, [.string ⟨#[]⟩, .string ⟨#[]⟩, .slice none 0 0, .slice none 0 0, .slice none 0 0, .int .i64 0]) := by kernel_rfl
theorem zv50 : zeroV Tryz.prog 50 = some (aggL [.v (.string ⟨#[]⟩), .v (.string ⟨#[]⟩), .v (.slice none 0 0), .v (.slice none 0 0), .v (.slice none 0 0), .v (.int .i64 0)]) := by kernel_rfl
@[go_sem] theorem by50 : bytesT Tryz.prog 50 = some 112 := by kernel_rfl
@[go_sem] theorem pl50 : placesT Tryz.prog 50 = some [(0, 1), (1, 1), (2, 1), (3, 1), (4, 1), (5, 1)] := by kernel_rfl
@[go_sem] theorem ld54 : ldT Tryz.prog 54 = some (1, false) := by kernel_rfl
@[go_sem] theorem elt54 : eltT Tryz.prog 54 = some (1, false) := by kernel_rfl
@[go_sem] theorem und54 : Tryz.prog.underlying 54 = some (.slice 9) := by kernel_rfl
@[go_sem] theorem zr54 : zeroA Tryz.prog 54 = some (1, [.slice none 0 0]) := by kernel_rfl
theorem zv54 : zeroV Tryz.prog 54 = some (.v (.slice none 0 0)) := by kernel_rfl
@[go_sem] theorem by54 : bytesT Tryz.prog 54 = some 24 := by kernel_rfl
@[go_sem] theorem ld58 : ldT Tryz.prog 58 = some (1, false) := by kernel_rfl
@[go_sem] theorem elt58 : eltT Tryz.prog 58 = some (5, true) := by kernel_rfl
@[go_sem] theorem und58 : Tryz.prog.underlying 58 = some (.slice 71) := by kernel_rfl
@[go_sem] theorem zr58 : zeroA Tryz.prog 58 = some (1, [.slice none 0 0]) := by kernel_rfl
theorem zv58 : zeroV Tryz.prog 58 = some (.v (.slice none 0 0)) := by kernel_rfl
@[go_sem] theorem by58 : bytesT Tryz.prog 58 = some 24 := by kernel_rfl
@[go_sem] theorem ld61 : ldT Tryz.prog 61 = some (1, false) := by kernel_rfl
@[go_sem] theorem und61 : Tryz.prog.underlying 61 = some (.map 9 4) := by kernel_rfl
@[go_sem] theorem zr61 : zeroA Tryz.prog 61 = some (1, [.map none]) := by kernel_rfl
theorem zv61 : zeroV Tryz.prog 61 = some (.v (.map none)) := by kernel_rfl
theorem kt61 : keyT Tryz.prog 9 = 2 := by kernel_rfl
@[go_sem] theorem by61 : bytesT Tryz.prog 61 = some 8 := by kernel_rfl
@[go_sem] theorem ld63 : ldT Tryz.prog 63 = some (1, false) := by kernel_rfl
@[go_sem] theorem elt63 : eltT Tryz.prog 63 = some (1, false) := by kernel_rfl
@[go_sem] theorem und63 : Tryz.prog.underlying 63 = some (.slice 3) := by kernel_rfl
@[go_sem] theorem zr63 : zeroA Tryz.prog 63 = some (1, [.slice none 0 0]) := by kernel_rfl
theorem zv63 : zeroV Tryz.prog 63 = some (.v (.slice none 0 0)) := by kernel_rfl
@[go_sem] theorem by63 : bytesT Tryz.prog 63 = some 24 := by kernel_rfl
@[go_sem] theorem ld65 : ldT Tryz.prog 65 = some (5, true) := by kernel_rfl
@[go_sem] theorem zr65 : zeroA Tryz.prog 65 = some (5, [.int .i64 0, .slice none 0 0, .int .i64 0, .int .i64 0, .string ⟨#[]⟩]) := by kernel_rfl
theorem zv65 : zeroV Tryz.prog 65 = some (aggL [.v (.int .i64 0), .v (.slice none 0 0), .v (.int .i64 0), .v (.int .i64 0), .v (.string ⟨#[]⟩)]) := by kernel_rfl
@[go_sem] theorem by65 : bytesT Tryz.prog 65 = some 64 := by kernel_rfl
@[go_sem] theorem pl65 : placesT Tryz.prog 65 = some [(0, 1), (1, 1), (2, 1), (3, 1), (4, 1)] := by kernel_rfl
@[go_sem] theorem ld71 : ldT Tryz.prog 71 = some (5, true) := by kernel_rfl
@[go_sem] theorem zr71 : zeroA Tryz.prog 71 = some (5, [.string ⟨#[]⟩, .string ⟨#[]⟩, .int .i64 0, .string ⟨#[]⟩, .string ⟨#[]⟩]) := by kernel_rfl
theorem zv71 : zeroV Tryz.prog 71 = some (aggL [.v (.string ⟨#[]⟩), .v (.string ⟨#[]⟩), .v (.int .i64 0), .v (.string ⟨#[]⟩), .v (.string ⟨#[]⟩)]) := by kernel_rfl
@[go_sem] theorem by71 : bytesT Tryz.prog 71 = some 72 := by kernel_rfl
@[go_sem] theorem eq71 : eqU Tryz.prog 71 = some [(0, 1), (1, 1), (2, 0), (3, 1), (4, 1)] := by kernel_rfl
@[go_sem] theorem pl71 : placesT Tryz.prog 71 = some [(0, 2), (2, 1), (3, 1), (4, 1)] := by kernel_rfl
@[go_sem] theorem ld75 : ldT Tryz.prog 75 = some (1, false) := by kernel_rfl
@[go_sem] theorem zr75 : zeroA Tryz.prog 75 = some (1, [.nilFunc]) := by kernel_rfl
theorem zv75 : zeroV Tryz.prog 75 = some (.v (.nilFunc)) := by kernel_rfl
@[go_sem] theorem by75 : bytesT Tryz.prog 75 = some 8 := by kernel_rfl
@[go_sem] theorem ld84 : ldT Tryz.prog 84 = some (2, true) := by kernel_rfl
@[go_sem] theorem zr84 : zeroA Tryz.prog 84 = some (2, [.int .i64 0, .int .i64 0]) := by kernel_rfl
theorem zv84 : zeroV Tryz.prog 84 = some (aggL [.v (.int .i64 0), .v (.int .i64 0)]) := by kernel_rfl
@[go_sem] theorem by84 : bytesT Tryz.prog 84 = some 16 := by kernel_rfl
@[go_sem] theorem eq84 : eqU Tryz.prog 84 = some [(0, 0), (1, 0)] := by kernel_rfl
@[go_sem] theorem pl84 : placesT Tryz.prog 84 = some [(0, 1), (1, 1)] := by kernel_rfl
@[go_sem] theorem ld99 : ldT Tryz.prog 99 = some (7, true) := by kernel_rfl
@[go_sem] theorem zr99 : zeroA Tryz.prog 99 = some (7, [.string ⟨#[]⟩, .int .i64 0, .bool false, .int .i64 0, .int .i64 0, .int .i64 0, .int .i64 0]) := by kernel_rfl
theorem zv99 : zeroV Tryz.prog 99 = some (aggL [.v (.string ⟨#[]⟩), .v (.int .i64 0), .v (.bool false), .v (.int .i64 0), .v (.int .i64 0), .v (.int .i64 0), .v (.int .i64 0)]) := by kernel_rfl
@[go_sem] theorem by99 : bytesT Tryz.prog 99 = some 64 := by kernel_rfl
@[go_sem] theorem pl99 : placesT Tryz.prog 99 = some [(0, 1), (1, 1), (2, 1), (3, 1), (4, 1), (5, 2)] := by kernel_rfl
@[go_sem] theorem ld100 : ldT Tryz.prog 100 = some (1, false) := by kernel_rfl
@[go_sem] theorem und100 : Tryz.prog.underlying 100 = some (.map 25 4) := by kernel_rfl
@[go_sem] theorem zr100 : zeroA Tryz.prog 100 = some (1, [.map none]) := by kernel_rfl
theorem zv100 : zeroV Tryz.prog 100 = some (.v (.map none)) := by kernel_rfl
theorem kt100 : keyT Tryz.prog 25 = 4 := by kernel_rfl
@[go_sem] theorem by100 : bytesT Tryz.prog 100 = some 8 := by kernel_rfl
@[go_sem] theorem ld104 : ldT Tryz.prog 104 = some (1, false) := by kernel_rfl
@[go_sem] theorem elt104 : eltT Tryz.prog 104 = some (1, false) := by kernel_rfl
@[go_sem] theorem und104 : Tryz.prog.underlying 104 = some (.slice 54) := by kernel_rfl
@[go_sem] theorem zr104 : zeroA Tryz.prog 104 = some (1, [.slice none 0 0]) := by kernel_rfl
theorem zv104 : zeroV Tryz.prog 104 = some (.v (.slice none 0 0)) := by kernel_rfl
@[go_sem] theorem by104 : bytesT Tryz.prog 104 = some 24 := by kernel_rfl
@[go_sem] theorem ld105 : ldT Tryz.prog 105 = some (1, false) := by kernel_rfl
@[go_sem] theorem zr105 : zeroA Tryz.prog 105 = some (1, [.nilFunc]) := by kernel_rfl
theorem zv105 : zeroV Tryz.prog 105 = some (.v (.nilFunc)) := by kernel_rfl
@[go_sem] theorem by105 : bytesT Tryz.prog 105 = some 8 := by kernel_rfl
@[go_sem] theorem ld106 : ldT Tryz.prog 106 = some (1, false) := by kernel_rfl
@[go_sem] theorem und106 : Tryz.prog.underlying 106 = some (.pointer 109) := by kernel_rfl
@[go_sem] theorem zr106 : zeroA Tryz.prog 106 = some (1, [.pointer none]) := by kernel_rfl
theorem zv106 : zeroV Tryz.prog 106 = some (.v (.pointer none)) := by kernel_rfl
@[go_sem] theorem by106 : bytesT Tryz.prog 106 = some 8 := by kernel_rfl
@[go_sem] theorem ld107 : ldT Tryz.prog 107 = some (1, false) := by kernel_rfl
@[go_sem] theorem elt107 : eltT Tryz.prog 107 = some (1, false) := by kernel_rfl
@[go_sem] theorem und107 : Tryz.prog.underlying 107 = some (.slice 5) := by kernel_rfl
@[go_sem] theorem zr107 : zeroA Tryz.prog 107 = some (1, [.slice none 0 0]) := by kernel_rfl
theorem zv107 : zeroV Tryz.prog 107 = some (.v (.slice none 0 0)) := by kernel_rfl
@[go_sem] theorem by107 : bytesT Tryz.prog 107 = some 24 := by kernel_rfl
@[go_sem] theorem ld109 : ldT Tryz.prog 109 = some (2, true) := by kernel_rfl
@[go_sem] theorem zr109 : zeroA Tryz.prog 109 = some (2, [.pointer none, .slice none 0 0]) := by kernel_rfl
theorem zv109 : zeroV Tryz.prog 109 = some (aggL [.v (.pointer none), .v (.slice none 0 0)]) := by kernel_rfl
@[go_sem] theorem by109 : bytesT Tryz.prog 109 = some 32 := by kernel_rfl
@[go_sem] theorem pl109 : placesT Tryz.prog 109 = some [(0, 1), (1, 1)] := by kernel_rfl
@[go_sem] theorem ld112 : ldT Tryz.prog 112 = some (1, false) := by kernel_rfl
@[go_sem] theorem zr112 : zeroA Tryz.prog 112 = some (1, [.nilIface]) := by kernel_rfl
theorem zv112 : zeroV Tryz.prog 112 = some (.v (.nilIface)) := by kernel_rfl
@[go_sem] theorem by112 : bytesT Tryz.prog 112 = some 16 := by kernel_rfl
@[go_sem] theorem ld128 : ldT Tryz.prog 128 = some (2, true) := by kernel_rfl
@[go_sem] theorem zr128 : zeroA Tryz.prog 128 = some (2, [.int .i64 0, .int .i64 0]) := by kernel_rfl
theorem zv128 : zeroV Tryz.prog 128 = some (aggL [.v (.int .i64 0), .v (.int .i64 0)]) := by kernel_rfl
@[go_sem] theorem by128 : bytesT Tryz.prog 128 = some 16 := by kernel_rfl
@[go_sem] theorem pl128 : placesT Tryz.prog 128 = some [(0, 1), (1, 1)] := by kernel_rfl
@[go_sem] theorem ld135 : ldT Tryz.prog 135 = some (1, false) := by kernel_rfl
@[go_sem] theorem und135 : Tryz.prog.underlying 135 = some (.int .u64) := by kernel_rfl
@[go_sem] theorem zr135 : zeroA Tryz.prog 135 = some (1, [.int .u64 0]) := by kernel_rfl
theorem zv135 : zeroV Tryz.prog 135 = some (.v (.int .u64 0)) := by kernel_rfl
@[go_sem] theorem by135 : bytesT Tryz.prog 135 = some 8 := by kernel_rfl
@[go_sem] theorem ld138 : ldT Tryz.prog 138 = some (1, false) := by kernel_rfl
@[go_sem] theorem zr138 : zeroA Tryz.prog 138 = some (1, [.nilFunc]) := by kernel_rfl
theorem zv138 : zeroV Tryz.prog 138 = some (.v (.nilFunc)) := by kernel_rfl
@[go_sem] theorem by138 : bytesT Tryz.prog 138 = some 8 := by kernel_rfl
@[go_sem] theorem ld142 : ldT Tryz.prog 142 = some (1, false) := by kernel_rfl
@[go_sem] theorem elt142 : eltT Tryz.prog 142 = some (2, true) := by kernel_rfl
@[go_sem] theorem und142 : Tryz.prog.underlying 142 = some (.slice 84) := by kernel_rfl
@[go_sem] theorem zr142 : zeroA Tryz.prog 142 = some (1, [.slice none 0 0]) := by kernel_rfl
theorem zv142 : zeroV Tryz.prog 142 = some (.v (.slice none 0 0)) := by kernel_rfl
@[go_sem] theorem by142 : bytesT Tryz.prog 142 = some 24 := by kernel_rfl
@[go_sem] theorem ld145 : ldT Tryz.prog 145 = some (1, false) := by kernel_rfl
@[go_sem] theorem zr145 : zeroA Tryz.prog 145 = some (1, [.nilFunc]) := by kernel_rfl
theorem zv145 : zeroV Tryz.prog 145 = some (.v (.nilFunc)) := by kernel_rfl
@[go_sem] theorem by145 : bytesT Tryz.prog 145 = some 8 := by kernel_rfl
@[go_sem] theorem ld148 : ldT Tryz.prog 148 = some (1, false) := by kernel_rfl
@[go_sem] theorem zr148 : zeroA Tryz.prog 148 = some (1, [.nilFunc]) := by kernel_rfl
theorem zv148 : zeroV Tryz.prog 148 = some (.v (.nilFunc)) := by kernel_rfl
@[go_sem] theorem by148 : bytesT Tryz.prog 148 = some 8 := by kernel_rfl
@[go_sem] theorem ld151 : ldT Tryz.prog 151 = some (1, false) := by kernel_rfl
@[go_sem] theorem und151 : Tryz.prog.underlying 151 = some (.map 3 4) := by kernel_rfl
@[go_sem] theorem zr151 : zeroA Tryz.prog 151 = some (1, [.map none]) := by kernel_rfl
theorem zv151 : zeroV Tryz.prog 151 = some (.v (.map none)) := by kernel_rfl
theorem kt151 : keyT Tryz.prog 3 = 1 := by kernel_rfl
@[go_sem] theorem by151 : bytesT Tryz.prog 151 = some 8 := by kernel_rfl
@[go_sem] theorem ld154 : ldT Tryz.prog 154 = some (1, false) := by kernel_rfl
@[go_sem] theorem elt154 : eltT Tryz.prog 154 = some (6, true) := by kernel_rfl
@[go_sem] theorem und154 : Tryz.prog.underlying 154 = some (.slice 156) := by kernel_rfl
@[go_sem] theorem zr154 : zeroA Tryz.prog 154 = some (1, [.slice none 0 0]) := by kernel_rfl
theorem zv154 : zeroV Tryz.prog 154 = some (.v (.slice none 0 0)) := by kernel_rfl
@[go_sem] theorem by154 : bytesT Tryz.prog 154 = some 24 := by kernel_rfl
@[go_sem] theorem ld156 : ldT Tryz.prog 156 = some (6, true) := by kernel_rfl
@[go_sem] theorem zr156 : zeroA Tryz.prog 156 = some (6, [.int .i64 0, .slice none 0 0, .int .i64 0, .int .i64 0, .string ⟨#[]⟩, .slice none 0 0]) := by kernel_rfl
theorem zv156 : zeroV Tryz.prog 156 = some (aggL [.v (.int .i64 0), .v (.slice none 0 0), .v (.int .i64 0), .v (.int .i64 0), .v (.string ⟨#[]⟩), .v (.slice none 0 0)]) := by kernel_rfl
@[go_sem] theorem by156 : bytesT Tryz.prog 156 = some 88 := by kernel_rfl
@[go_sem] theorem pl156 : placesT Tryz.prog 156 = some [(0, 5), (5, 1)] := by kernel_rfl
@[go_sem] theorem ld163 : ldT Tryz.prog 163 = some (1, false) := by kernel_rfl
@[go_sem] theorem und163 : Tryz.prog.underlying 163 = some (.map 9 54) := by kernel_rfl
@[go_sem] theorem zr163 : zeroA Tryz.prog 163 = some (1, [.map none]) := by kernel_rfl
theorem zv163 : zeroV Tryz.prog 163 = some (.v (.map none)) := by kernel_rfl
theorem kt163 : keyT Tryz.prog 9 = 2 := by kernel_rfl
@[go_sem] theorem by163 : bytesT Tryz.prog 163 = some 8 := by kernel_rfl
@[go_sem] theorem ld167 : ldT Tryz.prog 167 = some (1, false) := by kernel_rfl
@[go_sem] theorem und167 : Tryz.prog.underlying 167 = some (.map 25 48) := by kernel_rfl
@[go_sem] theorem zr167 : zeroA Tryz.prog 167 = some (1, [.map none]) := by kernel_rfl
theorem zv167 : zeroV Tryz.prog 167 = some (.v (.map none)) := by kernel_rfl
theorem kt167 : keyT Tryz.prog 25 = 4 := by kernel_rfl
@[go_sem] theorem by167 : bytesT Tryz.prog 167 = some 8 := by kernel_rfl
@[go_sem] theorem ld168 : ldT Tryz.prog 168 = some (1, false) := by kernel_rfl
@[go_sem] theorem und168 : Tryz.prog.underlying 168 = some (.map 9 4) := by kernel_rfl
@[go_sem] theorem zr168 : zeroA Tryz.prog 168 = some (1, [.map none]) := by kernel_rfl
theorem zv168 : zeroV Tryz.prog 168 = some (.v (.map none)) := by kernel_rfl
theorem kt168 : keyT Tryz.prog 9 = 2 := by kernel_rfl
@[go_sem] theorem by168 : bytesT Tryz.prog 168 = some 8 := by kernel_rfl
@[go_sem] theorem ld172 : ldT Tryz.prog 172 = some (1, false) := by kernel_rfl
@[go_sem] theorem zr172 : zeroA Tryz.prog 172 = some (1, [.nilFunc]) := by kernel_rfl
theorem zv172 : zeroV Tryz.prog 172 = some (.v (.nilFunc)) := by kernel_rfl
@[go_sem] theorem by172 : bytesT Tryz.prog 172 = some 8 := by kernel_rfl
@[go_sem] theorem ld174 : ldT Tryz.prog 174 = some (1, false) := by kernel_rfl
@[go_sem] theorem zr174 : zeroA Tryz.prog 174 = some (1, [.nilFunc]) := by kernel_rfl
theorem zv174 : zeroV Tryz.prog 174 = some (.v (.nilFunc)) := by kernel_rfl
@[go_sem] theorem by174 : bytesT Tryz.prog 174 = some 8 := by kernel_rfl
@[go_sem] theorem ld175 : ldT Tryz.prog 175 = some (1, false) := by kernel_rfl
@[go_sem] theorem und175 : Tryz.prog.underlying 175 = some (.map 9 61) := by kernel_rfl
@[go_sem] theorem zr175 : zeroA Tryz.prog 175 = some (1, [.map none]) := by kernel_rfl
theorem zv175 : zeroV Tryz.prog 175 = some (.v (.map none)) := by kernel_rfl
theorem kt175 : keyT Tryz.prog 9 = 2 := by kernel_rfl
@[go_sem] theorem by175 : bytesT Tryz.prog 175 = some 8 := by kernel_rfl
@[go_sem] theorem ld181 : ldT Tryz.prog 181 = some (1, false) := by kernel_rfl
@[go_sem] theorem zr181 : zeroA Tryz.prog 181 = some (1, [.nilFunc]) := by kernel_rfl
theorem zv181 : zeroV Tryz.prog 181 = some (.v (.nilFunc)) := by kernel_rfl
@[go_sem] theorem by181 : bytesT Tryz.prog 181 = some 8 := by kernel_rfl
@[go_sem] theorem ld183 : ldT Tryz.prog 183 = some (1, false) := by kernel_rfl
@[go_sem] theorem elt183 : eltT Tryz.prog 183 = some (1, false) := by kernel_rfl
@[go_sem] theorem und183 : Tryz.prog.underlying 183 = some (.slice 47) := by kernel_rfl
@[go_sem] theorem zr183 : zeroA Tryz.prog 183 = some (1, [.slice none 0 0]) := by kernel_rfl
theorem zv183 : zeroV Tryz.prog 183 = some (.v (.slice none 0 0)) := by kernel_rfl
@[go_sem] theorem by183 : bytesT Tryz.prog 183 = some 24 := by kernel_rfl
@[go_sem] theorem ld184 : ldT Tryz.prog 184 = some (1, false) := by kernel_rfl
@[go_sem] theorem und184 : Tryz.prog.underlying 184 = some (.pointer 5) := by kernel_rfl
@[go_sem] theorem zr184 : zeroA Tryz.prog 184 = some (1, [.pointer none]) := by kernel_rfl
theorem zv184 : zeroV Tryz.prog 184 = some (.v (.pointer none)) := by kernel_rfl
@[go_sem] theorem by184 : bytesT Tryz.prog 184 = some 8 := by kernel_rfl
@[go_sem] theorem ld187 : ldT Tryz.prog 187 = some (1, false) := by kernel_rfl
@[go_sem] theorem zr187 : zeroA Tryz.prog 187 = some (1, [.nilFunc]) := by kernel_rfl
theorem zv187 : zeroV Tryz.prog 187 = some (.v (.nilFunc)) := by kernel_rfl
@[go_sem] theorem by187 : bytesT Tryz.prog 187 = some 8 := by kernel_rfl
@[go_sem] theorem ld188 : ldT Tryz.prog 188 = some (1, false) := by kernel_rfl
@[go_sem] theorem und188 : Tryz.prog.underlying 188 = some (.pointer 190) := by kernel_rfl
@[go_sem] theorem zr188 : zeroA Tryz.prog 188 = some (1, [.pointer none]) := by kernel_rfl
theorem zv188 : zeroV Tryz.prog 188 = some (.v (.pointer none)) := by kernel_rfl
@[go_sem] theorem by188 : bytesT Tryz.prog 188 = some 8 := by kernel_rfl
@[go_sem] theorem ld190 : ldT Tryz.prog 190 = some (3, true) := by kernel_rfl
@[go_sem] theorem zr190 : zeroA Tryz.prog 190 = some (3, [.pointer none, .slice none 0 0, .slice none 0 0]) := by kernel_rfl
theorem zv190 : zeroV Tryz.prog 190 = some (aggL [.v (.pointer none), .v (.slice none 0 0), .v (.slice none 0 0)]) := by kernel_rfl
@[go_sem] theorem by190 : bytesT Tryz.prog 190 = some 56 := by kernel_rfl
@[go_sem] theorem pl190 : placesT Tryz.prog 190 = some [(0, 2), (2, 1)] := by kernel_rfl
@[go_sem] theorem ld198 : ldT Tryz.prog 198 = some (1, false) := by kernel_rfl
@[go_sem] theorem und198 : Tryz.prog.underlying 198 = some (.int .i64) := by kernel_rfl
@[go_sem] theorem zr198 : zeroA Tryz.prog 198 = some (1, [.int .i64 0]) := by kernel_rfl
theorem zv198 : zeroV Tryz.prog 198 = some (.v (.int .i64 0)) := by kernel_rfl
@[go_sem] theorem by198 : bytesT Tryz.prog 198 = some 8 := by kernel_rfl
@[go_sem] theorem ld206 : ldT Tryz.prog 206 = some (1, false) := by kernel_rfl
@[go_sem] theorem und206 : Tryz.prog.underlying 206 = some (.int .u32) := by kernel_rfl
@[go_sem] theorem zr206 : zeroA Tryz.prog 206 = some (1, [.int .u32 0]) := by kernel_rfl
theorem zv206 : zeroV Tryz.prog 206 = some (.v (.int .u32 0)) := by kernel_rfl
@[go_sem] theorem by206 : bytesT Tryz.prog 206 = some 4 := by kernel_rfl
@[go_sem] theorem ld208 : ldT Tryz.prog 208 = some (1, false) := by kernel_rfl
@[go_sem] theorem und208 : Tryz.prog.underlying 208 = some (.int .u64) := by kernel_rfl
@[go_sem] theorem zr208 : zeroA Tryz.prog 208 = some (1, [.int .u64 0]) := by kernel_rfl
theorem zv208 : zeroV Tryz.prog 208 = some (.v (.int .u64 0)) := by kernel_rfl
@[go_sem] theorem by208 : bytesT Tryz.prog 208 = some 8 := by kernel_rfl
@[go_sem] theorem ld212 : ldT Tryz.prog 212 = some (1, false) := by kernel_rfl
@[go_sem] theorem zr212 : zeroA Tryz.prog 212 = some (1, [.nilFunc]) := by kernel_rfl
theorem zv212 : zeroV Tryz.prog 212 = some (.v (.nilFunc)) := by kernel_rfl
@[go_sem] theorem by212 : bytesT Tryz.prog 212 = some 8 := by kernel_rfl
@[go_sem] theorem ld215 : ldT Tryz.prog 215 = some (1, false) := by kernel_rfl
@[go_sem] theorem und215 : Tryz.prog.underlying 215 = some (.map 4 3) := by kernel_rfl
@[go_sem] theorem zr215 : zeroA Tryz.prog 215 = some (1, [.map none]) := by kernel_rfl
theorem zv215 : zeroV Tryz.prog 215 = some (.v (.map none)) := by kernel_rfl
theorem kt215 : keyT Tryz.prog 4 = 3 := by kernel_rfl
@[go_sem] theorem by215 : bytesT Tryz.prog 215 = some 8 := by kernel_rfl
@[go_sem] theorem ld226 : ldT Tryz.prog 226 = some (1, false) := by kernel_rfl
@[go_sem] theorem elt226 : eltT Tryz.prog 226 = some (2, true) := by kernel_rfl
@[go_sem] theorem und226 : Tryz.prog.underlying 226 = some (.slice 227) := by kernel_rfl
@[go_sem] theorem zr226 : zeroA Tryz.prog 226 = some (1, [.slice none 0 0]) := by kernel_rfl
theorem zv226 : zeroV Tryz.prog 226 = some (.v (.slice none 0 0)) := by kernel_rfl
@[go_sem] theorem by226 : bytesT Tryz.prog 226 = some 24 := by kernel_rfl
@[go_sem] theorem ld227 : ldT Tryz.prog 227 = some (2, true) := by kernel_rfl
@[go_sem] theorem elt227 : eltT Tryz.prog 227 = none := by kernel_rfl
@[go_sem] theorem arr227 : arrT Tryz.prog 227 = some (2, 1, false) := by kernel_rfl
@[go_sem] theorem und227 : Tryz.prog.underlying 227 = some (.array 2 9) := by kernel_rfl
@[go_sem] theorem zr227 : zeroA Tryz.prog 227 = some (2, [.string ⟨#[]⟩, .string ⟨#[]⟩]) := by kernel_rfl
theorem zv227 : zeroV Tryz.prog 227 = some (aggL [.v (.string ⟨#[]⟩), .v (.string ⟨#[]⟩)]) := by kernel_rfl
@[go_sem] theorem by227 : bytesT Tryz.prog 227 = some 32 := by kernel_rfl
@[go_sem] theorem ld230 : ldT Tryz.prog 230 = some (1, false) := by kernel_rfl
@[go_sem] theorem und230 : Tryz.prog.underlying 230 = some (.map 25 3) := by kernel_rfl
@[go_sem] theorem zr230 : zeroA Tryz.prog 230 = some (1, [.map none]) := by kernel_rfl
theorem zv230 : zeroV Tryz.prog 230 = some (.v (.map none)) := by kernel_rfl
theorem kt230 : keyT Tryz.prog 25 = 4 := by kernel_rfl
@[go_sem] theorem by230 : bytesT Tryz.prog 230 = some 8 := by kernel_rfl
@[go_sem] theorem ld231 : ldT Tryz.prog 231 = some (1, false) := by kernel_rfl
@[go_sem] theorem und231 : Tryz.prog.underlying 231 = some (.map 9 3) := by kernel_rfl
@[go_sem] theorem zr231 : zeroA Tryz.prog 231 = some (1, [.map none]) := by kernel_rfl
theorem zv231 : zeroV Tryz.prog 231 = some (.v (.map none)) := by kernel_rfl
theorem kt231 : keyT Tryz.prog 9 = 2 := by kernel_rfl
@[go_sem] theorem by231 : bytesT Tryz.prog 231 = some 8 := by kernel_rfl
@[go_sem] theorem ld234 : ldT Tryz.prog 234 = some (256, true) := by kernel_rfl
@[go_sem] theorem elt234 : eltT Tryz.prog 234 = none := by kernel_rfl
@[go_sem] theorem arr234 : arrT Tryz.prog 234 = some (256, 1, false) := by kernel_rfl
@[go_sem] theorem und234 : Tryz.prog.underlying 234 = some (.array 256 4) := by kernel_rfl
@[go_sem] theorem zr234 : zeroA Tryz.prog 234 = some (256, rep 256 (.bool false)) := by kernel_rfl
@[go_sem] theorem by234 : bytesT Tryz.prog 234 = some 256 := by kernel_rfl
@[go_sem] theorem ld238 : ldT Tryz.prog 238 = some (1, false) := by kernel_rfl
@[go_sem] theorem und238 : Tryz.prog.underlying 238 = some (.pointer 234) := by kernel_rfl
@[go_sem] theorem zr238 : zeroA Tryz.prog 238 = some (1, [.pointer none]) := by kernel_rfl
theorem zv238 : zeroV Tryz.prog 238 = some (.v (.pointer none)) := by kernel_rfl
@[go_sem] theorem by238 : bytesT Tryz.prog 238 = some 8 := by kernel_rfl
@[go_sem] theorem ld240 : ldT Tryz.prog 240 = some (1, false) := by kernel_rfl
@[go_sem] theorem zr240 : zeroA Tryz.prog 240 = some (1, [.pointer none]) := by kernel_rfl
theorem zv240 : zeroV Tryz.prog 240 = some (.v (.pointer none)) := by kernel_rfl
@[go_sem] theorem by240 : bytesT Tryz.prog 240 = some 8 := by kernel_rfl
@[go_sem] theorem ld247 : ldT Tryz.prog 247 = some (1, false) := by kernel_rfl
@[go_sem] theorem und247 : Tryz.prog.underlying 247 = some (.map 3 9) := by kernel_rfl
@[go_sem] theorem zr247 : zeroA Tryz.prog 247 = some (1, [.map none]) := by kernel_rfl
theorem zv247 : zeroV Tryz.prog 247 = some (.v (.map none)) := by kernel_rfl
theorem kt247 : keyT Tryz.prog 3 = 1 := by kernel_rfl
@[go_sem] theorem by247 : bytesT Tryz.prog 247 = some 8 := by kernel_rfl
@[go_sem] theorem ld253 : ldT Tryz.prog 253 = some (1, false) := by kernel_rfl
@[go_sem] theorem und253 : Tryz.prog.underlying 253 = some (.int .u64) := by kernel_rfl
@[go_sem] theorem zr253 : zeroA Tryz.prog 253 = some (1, [.int .u64 0]) := by kernel_rfl
theorem zv253 : zeroV Tryz.prog 253 = some (.v (.int .u64 0)) := by kernel_rfl
@[go_sem] theorem by253 : bytesT Tryz.prog 253 = some 8 := by kernel_rfl
@[go_sem] theorem ld257 : ldT Tryz.prog 257 = some (1, false) := by kernel_rfl
@[go_sem] theorem und257 : Tryz.prog.underlying 257 = some (.pointer 3) := by kernel_rfl
@[go_sem] theorem zr257 : zeroA Tryz.prog 257 = some (1, [.pointer none]) := by kernel_rfl
theorem zv257 : zeroV Tryz.prog 257 = some (.v (.pointer none)) := by kernel_rfl
@[go_sem] theorem by257 : bytesT Tryz.prog 257 = some 8 := by kernel_rfl
@[go_sem] theorem ld268 : ldT Tryz.prog 268 = some (1, false) := by kernel_rfl
@[go_sem] theorem zr268 : zeroA Tryz.prog 268 = some (1, [.nilFunc]) := by kernel_rfl
theorem zv268 : zeroV Tryz.prog 268 = some (.v (.nilFunc)) := by kernel_rfl
@[go_sem] theorem by268 : bytesT Tryz.prog 268 = some 8 := by kernel_rfl
@[go_sem] theorem ld269 : ldT Tryz.prog 269 = some (1, false) := by kernel_rfl
@[go_sem] theorem und269 : Tryz.prog.underlying 269 = some (.map 9 43) := by kernel_rfl
@[go_sem] theorem zr269 : zeroA Tryz.prog 269 = some (1, [.map none]) := by kernel_rfl
theorem zv269 : zeroV Tryz.prog 269 = some (.v (.map none)) := by kernel_rfl
theorem kt269 : keyT Tryz.prog 9 = 2 := by kernel_rfl
@[go_sem] theorem by269 : bytesT Tryz.prog 269 = some 8 := by kernel_rfl
@[go_sem] theorem ld274 : ldT Tryz.prog 274 = some (1, false) := by kernel_rfl
@[go_sem] theorem zr274 : zeroA Tryz.prog 274 = some (1, [.nilFunc]) := by kernel_rfl
theorem zv274 : zeroV Tryz.prog 274 = some (.v (.nilFunc)) := by kernel_rfl
@[go_sem] theorem by274 : bytesT Tryz.prog 274 = some 8 := by kernel_rfl
@[go_sem] theorem ld284 : ldT Tryz.prog 284 = some (256, true) := by kernel_rfl
@[go_sem] theorem elt284 : eltT Tryz.prog 284 = none := by kernel_rfl
@[go_sem] theorem arr284 : arrT Tryz.prog 284 = some (256, 1, false) := by kernel_rfl
@[go_sem] theorem und284 : Tryz.prog.underlying 284 = some (.array 256 5) := by kernel_rfl
@[go_sem] theorem zr284 : zeroA Tryz.prog 284 = some (256, rep 256 (.int .u8 0)) := by kernel_rfl
@[go_sem] theorem by284 : bytesT Tryz.prog 284 = some 256 := by kernel_rfl
@[go_sem] theorem ld286 : ldT Tryz.prog 286 = some (24, true) := by kernel_rfl
@[go_sem] theorem elt286 : eltT Tryz.prog 286 = none := by kernel_rfl
@[go_sem] theorem arr286 : arrT Tryz.prog 286 = some (24, 1, false) := by kernel_rfl
@[go_sem] theorem und286 : Tryz.prog.underlying 286 = some (.array 24 5) := by kernel_rfl
@[go_sem] theorem zr286 : zeroA Tryz.prog 286 = some (24, [.int .u8 0, .int .u8 0, .int .u8 0, .int .u8 0, .int .u8 0, .int .u8 0, .int .u8 0, .int .u8 0, .int .u8 0, .int .u8 0, .int .u8 0, .int .u8 0, .int .u8 0, .int .u8 0, .int .u8 0, .int .u8 0, .int .u8 0, .int .u8 0, .int .u8 0, .int .u8 0, .int .u8 0, .int .u8 0, .int .u8 0, .int .u8 0]) := by kernel_rfl
theorem zv286 : zeroV Tryz.prog 286 = some (aggL [.v (.int .u8 0), .v (.int .u8 0), .v (.int .u8 0), .v (.int .u8 0), .v (.int .u8 0), .v (.int .u8 0), .v (.int .u8 0), .v (.int .u8 0), .v (.int .u8 0), .v (.int .u8 0), .v (.int .u8 0), .v (.int .u8 0), .v (.int .u8 0), .v (.int .u8 0), .v (.int .u8 0), .v (.int .u8 0), .v (.int .u8 0), .v (.int .u8 0), .v (.int .u8 0), .v (.int .u8 0), .v (.int .u8 0), .v (.int .u8 0), .v (.int .u8 0), .v (.int .u8 0)]) := by kernel_rfl
@[go_sem] theorem by286 : bytesT Tryz.prog 286 = some 24 := by kernel_rfl
@[go_sem] theorem ld301 : ldT Tryz.prog 301 = some (1, false) := by kernel_rfl
@[go_sem] theorem elt301 : eltT Tryz.prog 301 = some (2, true) := by kernel_rfl
@[go_sem] theorem und301 : Tryz.prog.underlying 301 = some (.slice 303) := by kernel_rfl
@[go_sem] theorem zr301 : zeroA Tryz.prog 301 = some (1, [.slice none 0 0]) := by kernel_rfl
theorem zv301 : zeroV Tryz.prog 301 = some (.v (.slice none 0 0)) := by kernel_rfl
@[go_sem] theorem by301 : bytesT Tryz.prog 301 = some 24 := by kernel_rfl
@[go_sem] theorem ld303 : ldT Tryz.prog 303 = some (2, true) := by kernel_rfl
@[go_sem] theorem zr303 : zeroA Tryz.prog 303 = some (2, [.int .i64 0, .int .i64 0]) := by kernel_rfl
theorem zv303 : zeroV Tryz.prog 303 = some (aggL [.v (.int .i64 0), .v (.int .i64 0)]) := by kernel_rfl
@[go_sem] theorem by303 : bytesT Tryz.prog 303 = some 16 := by kernel_rfl
@[go_sem] theorem pl303 : placesT Tryz.prog 303 = some [(0, 1), (1, 1)] := by kernel_rfl
@[go_sem] theorem ld305 : ldT Tryz.prog 305 = some (1, false) := by kernel_rfl
@[go_sem] theorem und305 : Tryz.prog.underlying 305 = some (.pointer 319) := by kernel_rfl
@[go_sem] theorem zr305 : zeroA Tryz.prog 305 = some (1, [.pointer none]) := by kernel_rfl
theorem zv305 : zeroV Tryz.prog 305 = some (.v (.pointer none)) := by kernel_rfl
@[go_sem] theorem by305 : bytesT Tryz.prog 305 = some 8 := by kernel_rfl
@[go_sem] theorem ld307 : ldT Tryz.prog 307 = some (20, true) := by kernel_rfl
@[go_sem] theorem elt307 : eltT Tryz.prog 307 = none := by kernel_rfl
@[go_sem] theorem arr307 : arrT Tryz.prog 307 = some (20, 1, false) := by kernel_rfl
@[go_sem] theorem und307 : Tryz.prog.underlying 307 = some (.array 20 208) := by kernel_rfl
@[go_sem] theorem zr307 : zeroA Tryz.prog 307 = some (20, [.int .u64 0, .int .u64 0, .int .u64 0, .int .u64 0, .int .u64 0, .int .u64 0, .int .u64 0, .int .u64 0, .int .u64 0, .int .u64 0, .int .u64 0, .int .u64 0, .int .u64 0, .int .u64 0, .int .u64 0, .int .u64 0, .int .u64 0, .int .u64 0, .int .u64 0, .int .u64 0]) := by kernel_rfl
theorem zv307 : zeroV Tryz.prog 307 = some (aggL [.v (.int .u64 0), .v (.int .u64 0), .v (.int .u64 0), .v (.int .u64 0), .v (.int .u64 0), .v (.int .u64 0), .v (.int .u64 0), .v (.int .u64 0), .v (.int .u64 0), .v (.int .u64 0), .v (.int .u64 0), .v (.int .u64 0), .v (.int .u64 0), .v (.int .u64 0), .v (.int .u64 0), .v (.int .u64 0), .v (.int .u64 0), .v (.int .u64 0), .v (.int .u64 0), .v (.int .u64 0)]) := by kernel_rfl
@[go_sem] theorem by307 : bytesT Tryz.prog 307 = some 160 := by kernel_rfl
@[go_sem] theorem ld308 : ldT Tryz.prog 308 = some (65, true) := by kernel_rfl
@[go_sem] theorem elt308 : eltT Tryz.prog 308 = none := by kernel_rfl
@[go_sem] theorem arr308 : arrT Tryz.prog 308 = some (65, 1, false) := by kernel_rfl
@[go_sem] theorem und308 : Tryz.prog.underlying 308 = some (.array 65 5) := by kernel_rfl
@[go_sem] theorem zr308 : zeroA Tryz.prog 308 = some (65, rep 65 (.int .u8 0)) := by kernel_rfl
@[go_sem] theorem by308 : bytesT Tryz.prog 308 = some 65 := by kernel_rfl
@[go_sem] theorem ld312 : ldT Tryz.prog 312 = some (2, true) := by kernel_rfl
@[go_sem] theorem zr312 : zeroA Tryz.prog 312 = some (2, [.int .u8 0, .int .u8 0]) := by kernel_rfl
theorem zv312 : zeroV Tryz.prog 312 = some (aggL [.v (.int .u8 0), .v (.int .u8 0)]) := by kernel_rfl
@[go_sem] theorem by312 : bytesT Tryz.prog 312 = some 2 := by kernel_rfl
@[go_sem] theorem pl312 : placesT Tryz.prog 312 = some [(0, 1), (1, 1)] := by kernel_rfl
@[go_sem] theorem ld313 : ldT Tryz.prog 313 = some (32, true) := by kernel_rfl
@[go_sem] theorem elt313 : eltT Tryz.prog 313 = none := by kernel_rfl
@[go_sem] theorem arr313 : arrT Tryz.prog 313 = some (16, 2, true) := by kernel_rfl
@[go_sem] theorem und313 : Tryz.prog.underlying 313 = some (.array 16 312) := by kernel_rfl
@[go_sem] theorem zr313 : zeroA Tryz.prog 313 = some (32, [.int .u8 0, .int .u8 0, .int .u8 0, .int .u8 0, .int .u8 0, .int .u8 0, .int .u8 0, .int .u8 0, .int .u8 0, .int .u8 0, .int .u8 0, .int .u8 0, .int .u8 0, .int .u8 0, .int .u8 0, .int .u8 0, .int .u8 0, .int .u8 0, .int .u8 0, .int .u8 0, .int .u8 0, .int .u8 0, .int .u8 0, .int .u8 0, .int .u8 0, .int .u8 0, .int .u8 0, .int .u8 0, .int .u8 0, .int .u8 0, .int .u8 0, .int .u8 0]) := by kernel_rfl
theorem zv313 : zeroV Tryz.prog 313 = some (aggL [.v (.int .u8 0), .v (.int .u8 0), .v (.int .u8 0), .v (.int .u8 0), .v (.int .u8 0), .v (.int .u8 0), .v (.int .u8 0), .v (.int .u8 0), .v (.int .u8 0), .v (.int .u8 0), .v (.int .u8 0), .v (.int .u8 0), .v (.int .u8 0), .v (.int .u8 0), .v (.int .u8 0), .v (.int .u8 0), .v (.int .u8 0), .v (.int .u8 0), .v (.int .u8 0), .v (.int .u8 0), .v (.int .u8 0), .v (.int .u8 0), .v (.int .u8 0), .v (.int .u8 0), .v (.int .u8 0), .v (.int .u8 0), .v (.int .u8 0), .v (.int .u8 0), .v (.int .u8 0), .v (.int .u8 0), .v (.int .u8 0), .v (.int .u8 0)]) := by kernel_rfl
@[go_sem] theorem by313 : bytesT Tryz.prog 313 = some 32 := by kernel_rfl
@[go_sem] theorem ld316 : ldT Tryz.prog 316 = some (1, false) := by kernel_rfl
@[go_sem] theorem elt316 : eltT Tryz.prog 316 = some (3, true) := by kernel_rfl
@[go_sem] theorem und316 : Tryz.prog.underlying 316 = some (.slice 322) := by kernel_rfl
@[go_sem] theorem zr316 : zeroA Tryz.prog 316 = some (1, [.slice none 0 0]) := by kernel_rfl
theorem zv316 : zeroV Tryz.prog 316 = some (.v (.slice none 0 0)) := by kernel_rfl
@[go_sem] theorem by316 : bytesT Tryz.prog 316 = some 24 := by kernel_rfl
@[go_sem] theorem ld317 : ldT Tryz.prog 317 = some (1, false) := by kernel_rfl
@[go_sem] theorem elt317 : eltT Tryz.prog 317 = some (3, true) := by kernel_rfl
@[go_sem] theorem und317 : Tryz.prog.underlying 317 = some (.slice 325) := by kernel_rfl
@[go_sem] theorem zr317 : zeroA Tryz.prog 317 = some (1, [.slice none 0 0]) := by kernel_rfl
theorem zv317 : zeroV Tryz.prog 317 = some (.v (.slice none 0 0)) := by kernel_rfl
@[go_sem] theorem by317 : bytesT Tryz.prog 317 = some 24 := by kernel_rfl
@[go_sem] theorem ld319 : ldT Tryz.prog 319 = some (3, true) := by kernel_rfl
@[go_sem] theorem zr319 : zeroA Tryz.prog 319 = some (3, [.slice none 0 0, .slice none 0 0, .int .i64 0]) := by kernel_rfl
theorem zv319 : zeroV Tryz.prog 319 = some (aggL [.v (.slice none 0 0), .v (.slice none 0 0), .v (.int .i64 0)]) := by kernel_rfl
@[go_sem] theorem by319 : bytesT Tryz.prog 319 = some 56 := by kernel_rfl
@[go_sem] theorem pl319 : placesT Tryz.prog 319 = some [(0, 1), (1, 1), (2, 1)] := by kernel_rfl
@[go_sem] theorem ld320 : ldT Tryz.prog 320 = some (1, false) := by kernel_rfl
@[go_sem] theorem und320 : Tryz.prog.underlying 320 = some (.int .u16) := by kernel_rfl
@[go_sem] theorem zr320 : zeroA Tryz.prog 320 = some (1, [.int .u16 0]) := by kernel_rfl
theorem zv320 : zeroV Tryz.prog 320 = some (.v (.int .u16 0)) := by kernel_rfl
@[go_sem] theorem by320 : bytesT Tryz.prog 320 = some 2 := by kernel_rfl
@[go_sem] theorem ld322 : ldT Tryz.prog 322 = some (3, true) := by kernel_rfl
@[go_sem] theorem zr322 : zeroA Tryz.prog 322 = some (3, [.int .u16 0, .int .u16 0, .int .u16 0]) := by kernel_rfl
theorem zv322 : zeroV Tryz.prog 322 = some (aggL [.v (.int .u16 0), .v (.int .u16 0), .v (.int .u16 0)]) := by kernel_rfl
@[go_sem] theorem by322 : bytesT Tryz.prog 322 = some 6 := by kernel_rfl
@[go_sem] theorem pl322 : placesT Tryz.prog 322 = some [(0, 1), (1, 1), (2, 1)] := by kernel_rfl
@[go_sem] theorem ld325 : ldT Tryz.prog 325 = some (3, true) := by kernel_rfl
@[go_sem] theorem zr325 : zeroA Tryz.prog 325 = some (3, [.int .u32 0, .int .u32 0, .int .u32 0]) := by kernel_rfl
theorem zv325 : zeroV Tryz.prog 325 = some (aggL [.v (.int .u32 0), .v (.int .u32 0), .v (.int .u32 0)]) := by kernel_rfl
@[go_sem] theorem by325 : bytesT Tryz.prog 325 = some 12 := by kernel_rfl
@[go_sem] theorem pl325 : placesT Tryz.prog 325 = some [(0, 1), (1, 1), (2, 1)] := by kernel_rfl
@[go_sem] theorem ld329 : ldT Tryz.prog 329 = some (32, true) := by kernel_rfl
@[go_sem] theorem elt329 : eltT Tryz.prog 329 = none := by kernel_rfl
@[go_sem] theorem arr329 : arrT Tryz.prog 329 = some (32, 1, false) := by kernel_rfl
@[go_sem] theorem und329 : Tryz.prog.underlying 329 = some (.array 32 5) := by kernel_rfl
@[go_sem] theorem zr329 : zeroA Tryz.prog 329 = some (32, [.int .u8 0, .int .u8 0, .int .u8 0, .int .u8 0, .int .u8 0, .int .u8 0, .int .u8 0, .int .u8 0, .int .u8 0, .int .u8 0, .int .u8 0, .int .u8 0, .int .u8 0, .int .u8 0, .int .u8 0, .int .u8 0, .int .u8 0, .int .u8 0, .int .u8 0, .int .u8 0, .int .u8 0, .int .u8 0, .int .u8 0, .int .u8 0, .int .u8 0, .int .u8 0, .int .u8 0, .int .u8 0, .int .u8 0, .int .u8 0, .int .u8 0, .int .u8 0]) := by kernel_rfl
theorem zv329 : zeroV Tryz.prog 329 = some (aggL [.v (.int .u8 0), .v (.int .u8 0), .v (.int .u8 0), .v (.int .u8 0), .v (.int .u8 0), .v (.int .u8 0), .v (.int .u8 0), .v (.int .u8 0), .v (.int .u8 0), .v (.int .u8 0), .v (.int .u8 0), .v (.int .u8 0), .v (.int .u8 0), .v (.int .u8 0), .v (.int .u8 0), .v (.int .u8 0), .v (.int .u8 0), .v (.int .u8 0), .v (.int .u8 0), .v (.int .u8 0), .v (.int .u8 0), .v (.int .u8 0), .v (.int .u8 0), .v (.int .u8 0), .v (.int .u8 0), .v (.int .u8 0), .v (.int .u8 0), .v (.int .u8 0), .v (.int .u8 0), .v (.int .u8 0), .v (.int .u8 0), .v (.int .u8 0)]) := by kernel_rfl
@[go_sem] theorem by329 : bytesT Tryz.prog 329 = some 32 := by kernel_rfl
@[go_sem] theorem ld330 : ldT Tryz.prog 330 = some (64, true) := by kernel_rfl
@[go_sem] theorem elt330 : eltT Tryz.prog 330 = none := by kernel_rfl
@[go_sem] theorem arr330 : arrT Tryz.prog 330 = some (64, 1, false) := by kernel_rfl
@[go_sem] theorem und330 : Tryz.prog.underlying 330 = some (.array 64 5) := by kernel_rfl
@[go_sem] theorem zr330 : zeroA Tryz.prog 330 = some (64, rep 64 (.int .u8 0)) := by kernel_rfl
@[go_sem] theorem by330 : bytesT Tryz.prog 330 = some 64 := by kernel_rfl
@[go_sem] theorem fld25_0 : fldT Tryz.prog 25 0 = some (0, 1, false) := by kernel_rfl
@[go_sem] theorem fld25_1 : fldT Tryz.prog 25 1 = some (1, 1, false) := by kernel_rfl
@[go_sem] theorem fld37_0 : fldT Tryz.prog 37 0 = some (0, 1, false) := by kernel_rfl
@[go_sem] theorem fld37_1 : fldT Tryz.prog 37 1 = some (1, 1, false) := by kernel_rfl
@[go_sem] theorem fld37_2 : fldT Tryz.prog 37 2 = some (2, 1, false) := by kernel_rfl
@[go_sem] theorem fld37_3 : fldT Tryz.prog 37 3 = some (3, 1, false) := by kernel_rfl
@[go_sem] theorem fld37_4 : fldT Tryz.prog 37 4 = some (4, 1, false) := by kernel_rfl
@[go_sem] theorem fld37_5 : fldT Tryz.prog 37 5 = some (5, 1, false) := by kernel_rfl
@[go_sem] theorem fld43_0 : fldT Tryz.prog 43 0 = some (0, 1, false) := by kernel_rfl
@[go_sem] theorem fld43_1 : fldT Tryz.prog 43 1 = some (1, 1, false) := by kernel_rfl
@[go_sem] theorem fld43_2 : fldT Tryz.prog 43 2 = some (2, 1, false) := by kernel_rfl
@[go_sem] theorem fld43_3 : fldT Tryz.prog 43 3 = some (3, 1, false) := by kernel_rfl
@[go_sem] theorem fld43_4 : fldT Tryz.prog 43 4 = some (4, 1, false) := by kernel_rfl
@[go_sem] theorem fld50_0 : fldT Tryz.prog 50 0 = some (0, 1, false) := by kernel_rfl
@[go_sem] theorem fld50_1 : fldT Tryz.prog 50 1 = some (1, 1, false) := by kernel_rfl
@[go_sem] theorem fld50_2 : fldT Tryz.prog 50 2 = some (2, 1, false) := by kernel_rfl
@[go_sem] theorem fld50_3 : fldT Tryz.prog 50 3 = some (3, 1, false) := by kernel_rfl
@[go_sem] theorem fld50_4 : fldT Tryz.prog 50 4 = some (4, 1, false) := by kernel_rfl
@[go_sem] theorem fld50_5 : fldT Tryz.prog 50 5 = some (5, 1, false) := by kernel_rfl
@[go_sem] theorem fld65_0 : fldT Tryz.prog 65 0 = some (0, 1, false) := by kernel_rfl
@[go_sem] theorem fld65_1 : fldT Tryz.prog 65 1 = some (1, 1, false) := by kernel_rfl
@[go_sem] theorem fld65_2 : fldT Tryz.prog 65 2 = some (2, 1, false) := by kernel_rfl
@[go_sem] theorem fld65_3 : fldT Tryz.prog 65 3 = some (3, 1, false) := by kernel_rfl
@[go_sem] theorem fld65_4 : fldT Tryz.prog 65 4 = some (4, 1, false) := by kernel_rfl
@[go_sem] theorem fld84_0 : fldT Tryz.prog 84 0 = some (0, 1, false) := by kernel_rfl
@[go_sem] theorem fld84_1 : fldT Tryz.prog 84 1 = some (1, 1, false) := by kernel_rfl
@[go_sem] theorem fld99_0 : fldT Tryz.prog 99 0 = some (0, 1, false) := by kernel_rfl
@[go_sem] theorem fld99_1 : fldT Tryz.prog 99 1 = some (1, 1, false) := by kernel_rfl
@[go_sem] theorem fld99_2 : fldT Tryz.prog 99 2 = some (2, 1, false) := by kernel_rfl
@[go_sem] theorem fld99_3 : fldT Tryz.prog 99 3 = some (3, 1, false) := by kernel_rfl
@[go_sem] theorem fld99_4 : fldT Tryz.prog 99 4 = some (4, 1, false) := by kernel_rfl
@[go_sem] theorem fld99_5 : fldT Tryz.prog 99 5 = some (5, 2, true) := by kernel_rfl
@[go_sem] theorem fld109_0 : fldT Tryz.prog 109 0 = some (0, 1, false) := by kernel_rfl
@[go_sem] theorem fld109_1 : fldT Tryz.prog 109 1 = some (1, 1, false) := by kernel_rfl
@[go_sem] theorem fld128_0 : fldT Tryz.prog 128 0 = some (0, 1, false) := by kernel_rfl
@[go_sem] theorem fld128_1 : fldT Tryz.prog 128 1 = some (1, 1, false) := by kernel_rfl
@[go_sem] theorem fld156_0 : fldT Tryz.prog 156 0 = some (0, 5, true) := by kernel_rfl
@[go_sem] theorem fld156_1 : fldT Tryz.prog 156 1 = some (5, 1, false) := by kernel_rfl
@[go_sem] theorem fld190_0 : fldT Tryz.prog 190 0 = some (0, 2, true) := by kernel_rfl
@[go_sem] theorem fld190_1 : fldT Tryz.prog 190 1 = some (2, 1, false) := by kernel_rfl
@[go_sem] theorem fld303_0 : fldT Tryz.prog 303 0 = some (0, 1, false) := by kernel_rfl
@[go_sem] theorem fld303_1 : fldT Tryz.prog 303 1 = some (1, 1, false) := by kernel_rfl
@[go_sem] theorem fld312_0 : fldT Tryz.prog 312 0 = some (0, 1, false) := by kernel_rfl
@[go_sem] theorem fld312_1 : fldT Tryz.prog 312 1 = some (1, 1, false) := by kernel_rfl
@[go_sem] theorem fld319_0 : fldT Tryz.prog 319 0 = some (0, 1, false) := by kernel_rfl
@[go_sem] theorem fld319_1 : fldT Tryz.prog 319 1 = some (1, 1, false) := by kernel_rfl
@[go_sem] theorem fld319_2 : fldT Tryz.prog 319 2 = some (2, 1, false) := by kernel_rfl
@[go_sem] theorem fld322_0 : fldT Tryz.prog 322 0 = some (0, 1, false) := by kernel_rfl
@[go_sem] theorem fld322_1 : fldT Tryz.prog 322 1 = some (1, 1, false) := by kernel_rfl
@[go_sem] theorem fld322_2 : fldT Tryz.prog 322 2 = some (2, 1, false) := by kernel_rfl
@[go_sem] theorem fld325_0 : fldT Tryz.prog 325 0 = some (0, 1, false) := by kernel_rfl
@[go_sem] theorem fld325_1 : fldT Tryz.prog 325 1 = some (1, 1, false) := by kernel_rfl
@[go_sem] theorem fld325_2 : fldT Tryz.prog 325 2 = some (2, 1, false) := by kernel_rfl
@[go_sem] theorem cb0 : callable Tryz.prog 0 = false := by kernel_rfl
@[go_sem] theorem cb1 : callable Tryz.prog 1 = false := by kernel_rfl
theorem nt2 : Tryz.f2.ntmps = 1 := rfl
theorem rs2 : Tryz.f2.results.toList = [] := rfl
@[go_sem] theorem cb2 : callable Tryz.prog 2 = true := by kernel_rfl
theorem nt3 : Tryz.f3.ntmps = 67 := rfl
theorem rs3 : Tryz.f3.results.toList = [.tmp 10] := rfl
@[go_sem] theorem cb3 : callable Tryz.prog 3 = true := by kernel_rfl
theorem nt4 : Tryz.f4.ntmps = 99 := rfl
theorem rs4 : Tryz.f4.results.toList = [.tmp 2] := rfl
@[go_sem] theorem cb4 : callable Tryz.prog 4 = true := by kernel_rfl
theorem nt5 : Tryz.f5.ntmps = 206 := rfl
theorem rs5 : Tryz.f5.results.toList = [.tmp 6] := rfl
@[go_sem] theorem cb5 : callable Tryz.prog 5 = true := by kernel_rfl
theorem nt6 : Tryz.f6.ntmps = 75 := rfl
theorem rs6 : Tryz.f6.results.toList = [.tmp 4] := rfl
@[go_sem] theorem cb6 : callable Tryz.prog 6 = true := by kernel_rfl
theorem nt7 : Tryz.f7.ntmps = 41 := rfl
theorem rs7 : Tryz.f7.results.toList = [.tmp 2] := rfl
@[go_sem] theorem cb7 : callable Tryz.prog 7 = true := by kernel_rfl
theorem nt8 : Tryz.f8.ntmps = 38 := rfl
theorem rs8 : Tryz.f8.results.toList = [.tmp 0] := rfl
@[go_sem] theorem cb8 : callable Tryz.prog 8 = true := by kernel_rfl
theorem nt9 : Tryz.f9.ntmps = 152 := rfl
theorem rs9 : Tryz.f9.results.toList = [.tmp 8, .tmp 9] := rfl
@[go_sem] theorem cb9 : callable Tryz.prog 9 = true := by kernel_rfl
theorem nt10 : Tryz.f10.ntmps = 149 := rfl
theorem rs10 : Tryz.f10.results.toList = [.tmp 8, .tmp 9] := rfl
@[go_sem] theorem cb10 : callable Tryz.prog 10 = true := by kernel_rfl
theorem nt11 : Tryz.f11.ntmps = 102 := rfl
theorem rs11 : Tryz.f11.results.toList = [.tmp 2] := rfl
@[go_sem] theorem cb11 : callable Tryz.prog 11 = true := by kernel_rfl
theorem nt12 : Tryz.f12.ntmps = 105 := rfl
theorem rs12 : Tryz.f12.results.toList = [.tmp 6, .tmp 7] := rfl
@[go_sem] theorem cb12 : callable Tryz.prog 12 = true := by kernel_rfl
theorem nt13 : Tryz.f13.ntmps = 104 := rfl
theorem rs13 : Tryz.f13.results.toList = [.tmp 6, .tmp 7] := rfl
@[go_sem] theorem cb13 : callable Tryz.prog 13 = true := by kernel_rfl
theorem nt14 : Tryz.f14.ntmps = 14 := rfl
theorem rs14 : Tryz.f14.results.toList = [.tmp 0] := rfl
@[go_sem] theorem cb14 : callable Tryz.prog 14 = true := by kernel_rfl
theorem nt15 : Tryz.f15.ntmps = 74 := rfl
theorem rs15 : Tryz.f15.results.toList = [.tmp 2] := rfl
@[go_sem] theorem cb15 : callable Tryz.prog 15 = true := by kernel_rfl
theorem nt16 : Tryz.f16.ntmps = 73 := rfl
theorem rs16 : Tryz.f16.results.toList = [.tmp 2] := rfl
@[go_sem] theorem cb16 : callable Tryz.prog 16 = true := by kernel_rfl
theorem nt17 : Tryz.f17.ntmps = 84 := rfl
theorem rs17 : Tryz.f17.results.toList = [.tmp 2, .tmp 3] := rfl
@[go_sem] theorem cb17 : callable Tryz.prog 17 = true := by kernel_rfl
theorem nt18 : Tryz.f18.ntmps = 69 := rfl
theorem rs18 : Tryz.f18.results.toList = [.tmp 2, .tmp 3] := rfl
@[go_sem] theorem cb18 : callable Tryz.prog 18 = true := by kernel_rfl
theorem nt19 : Tryz.f19.ntmps = 60 := rfl
theorem rs19 : Tryz.f19.results.toList = [.tmp 2] := rfl
@[go_sem] theorem cb19 : callable Tryz.prog 19 = true := by kernel_rfl
theorem nt20 : Tryz.f20.ntmps = 70 := rfl
theorem rs20 : Tryz.f20.results.toList = [.tmp 2, .tmp 3] := rfl
@[go_sem] theorem cb20 : callable Tryz.prog 20 = true := by kernel_rfl
theorem nt21 : Tryz.f21.ntmps = 68 := rfl
theorem rs21 : Tryz.f21.results.toList = [.tmp 2] := rfl
@[go_sem] theorem cb21 : callable Tryz.prog 21 = true := by kernel_rfl
theorem nt22 : Tryz.f22.ntmps = 75 := rfl
theorem rs22 : Tryz.f22.results.toList = [.tmp 4] := rfl
@[go_sem] theorem cb22 : callable Tryz.prog 22 = true := by kernel_rfl
theorem nt23 : Tryz.f23.ntmps = 119 := rfl
theorem rs23 : Tryz.f23.results.toList = [.tmp 2] := rfl
@[go_sem] theorem cb23 : callable Tryz.prog 23 = true := by kernel_rfl
theorem nt24 : Tryz.f24.ntmps = 19 := rfl
theorem rs24 : Tryz.f24.results.toList = [.tmp 2] := rfl
@[go_sem] theorem cb24 : callable Tryz.prog 24 = true := by kernel_rfl
theorem nt25 : Tryz.f25.ntmps = 47 := rfl
theorem rs25 : Tryz.f25.results.toList = [.tmp 2, .tmp 3] := rfl
@[go_sem] theorem cb25 : callable Tryz.prog 25 = true := by kernel_rfl
theorem nt26 : Tryz.f26.ntmps = 8 := rfl
theorem rs26 : Tryz.f26.results.toList = [.tmp 2] := rfl
@[go_sem] theorem cb26 : callable Tryz.prog 26 = true := by kernel_rfl
theorem nt27 : Tryz.f27.ntmps = 38 := rfl
theorem rs27 : Tryz.f27.results.toList = [.tmp 4] := rfl
@[go_sem] theorem cb27 : callable Tryz.prog 27 = true := by kernel_rfl
theorem nt28 : Tryz.f28.ntmps = 9 := rfl
theorem rs28 : Tryz.f28.results.toList = [.tmp 4] := rfl
@[go_sem] theorem cb28 : callable Tryz.prog 28 = true := by kernel_rfl
theorem nt29 : Tryz.f29.ntmps = 11 := rfl
theorem rs29 : Tryz.f29.results.toList = [] := rfl
@[go_sem] theorem cb29 : callable Tryz.prog 29 = true := by kernel_rfl
theorem nt30 : Tryz.f30.ntmps = 61 := rfl
theorem rs30 : Tryz.f30.results.toList = [.tmp 2] := rfl
@[go_sem] theorem cb30 : callable Tryz.prog 30 = true := by kernel_rfl
theorem nt31 : Tryz.f31.ntmps = 34 := rfl
theorem rs31 : Tryz.f31.results.toList = [.cell 4 50, .tmp 5] := rfl
@[go_sem] theorem cb31 : callable Tryz.prog 31 = true := by kernel_rfl
theorem nt32 : Tryz.f32.ntmps = 64 := rfl
theorem rs32 : Tryz.f32.results.toList = [.tmp 2, .tmp 3] := rfl
@[go_sem] theorem cb32 : callable Tryz.prog 32 = true := by kernel_rfl
theorem nt33 : Tryz.f33.ntmps = 9 := rfl
theorem rs33 : Tryz.f33.results.toList = [.tmp 4] := rfl
@[go_sem] theorem cb33 : callable Tryz.prog 33 = true := by kernel_rfl
theorem nt34 : Tryz.f34.ntmps = 42 := rfl
theorem rs34 : Tryz.f34.results.toList = [.tmp 4] := rfl
@[go_sem] theorem cb34 : callable Tryz.prog 34 = true := by kernel_rfl
theorem nt35 : Tryz.f35.ntmps = 8 := rfl
theorem rs35 : Tryz.f35.results.toList = [.tmp 2] := rfl
@[go_sem] theorem cb35 : callable Tryz.prog 35 = true := by kernel_rfl
theorem nt36 : Tryz.f36.ntmps = 7 := rfl
theorem rs36 : Tryz.f36.results.toList = [.tmp 3] := rfl
@[go_sem] theorem cb36 : callable Tryz.prog 36 = true := by kernel_rfl
theorem nt37 : Tryz.f37.ntmps = 26 := rfl
theorem rs37 : Tryz.f37.results.toList = [.tmp 4] := rfl
@[go_sem] theorem cb37 : callable Tryz.prog 37 = true := by kernel_rfl
theorem nt38 : Tryz.f38.ntmps = 10 := rfl
theorem rs38 : Tryz.f38.results.toList = [.tmp 4] := rfl
@[go_sem] theorem cb38 : callable Tryz.prog 38 = true := by kernel_rfl
theorem nt39 : Tryz.f39.ntmps = 10 := rfl
theorem rs39 : Tryz.f39.results.toList = [.tmp 4] := rfl
@[go_sem] theorem cb39 : callable Tryz.prog 39 = true := by kernel_rfl
theorem nt40 : Tryz.f40.ntmps = 26 := rfl
theorem rs40 : Tryz.f40.results.toList = [.tmp 4] := rfl
@[go_sem] theorem cb40 : callable Tryz.prog 40 = true := by kernel_rfl
theorem nt41 : Tryz.f41.ntmps = 17 := rfl
theorem rs41 : Tryz.f41.results.toList = [.tmp 2] := rfl
@[go_sem] theorem cb41 : callable Tryz.prog 41 = true := by kernel_rfl
theorem nt42 : Tryz.f42.ntmps = 26 := rfl
theorem rs42 : Tryz.f42.results.toList = [.tmp 4] := rfl
@[go_sem] theorem cb42 : callable Tryz.prog 42 = true := by kernel_rfl
theorem nt43 : Tryz.f43.ntmps = 15 := rfl
theorem rs43 : Tryz.f43.results.toList = [.tmp 2, .tmp 3] := rfl
@[go_sem] theorem cb43 : callable Tryz.prog 43 = true := by kernel_rfl
theorem nt44 : Tryz.f44.ntmps = 129 := rfl
theorem rs44 : Tryz.f44.results.toList = [.cell 8 84, .tmp 9] := rfl
@[go_sem] theorem cb44 : callable Tryz.prog 44 = true := by kernel_rfl
theorem nt45 : Tryz.f45.ntmps = 112 := rfl
theorem rs45 : Tryz.f45.results.toList = [.tmp 2] := rfl
@[go_sem] theorem cb45 : callable Tryz.prog 45 = true := by kernel_rfl
theorem nt46 : Tryz.f46.ntmps = 12 := rfl
theorem rs46 : Tryz.f46.results.toList = [.tmp 2, .tmp 3] := rfl
@[go_sem] theorem cb46 : callable Tryz.prog 46 = true := by kernel_rfl
theorem nt47 : Tryz.f47.ntmps = 49 := rfl
theorem rs47 : Tryz.f47.results.toList = [.tmp 2] := rfl
@[go_sem] theorem cb47 : callable Tryz.prog 47 = true := by kernel_rfl
theorem nt48 : Tryz.f48.ntmps = 15 := rfl
theorem rs48 : Tryz.f48.results.toList = [.tmp 2] := rfl
@[go_sem] theorem cb48 : callable Tryz.prog 48 = true := by kernel_rfl
theorem nt49 : Tryz.f49.ntmps = 23 := rfl
theorem rs49 : Tryz.f49.results.toList = [.tmp 0] := rfl
@[go_sem] theorem cb49 : callable Tryz.prog 49 = true := by kernel_rfl
theorem nt50 : Tryz.f50.ntmps = 153 := rfl
theorem rs50 : Tryz.f50.results.toList = [.tmp 2] := rfl
@[go_sem] theorem cb50 : callable Tryz.prog 50 = true := by kernel_rfl
theorem nt51 : Tryz.f51.ntmps = 61 := rfl
theorem rs51 : Tryz.f51.results.toList = [.tmp 2, .tmp 3] := rfl
@[go_sem] theorem cb51 : callable Tryz.prog 51 = true := by kernel_rfl
theorem nt52 : Tryz.f52.ntmps = 120 := rfl
theorem rs52 : Tryz.f52.results.toList = [.tmp 2] := rfl
@[go_sem] theorem cb52 : callable Tryz.prog 52 = true := by kernel_rfl
theorem nt53 : Tryz.f53.ntmps = 112 := rfl
theorem rs53 : Tryz.f53.results.toList = [.tmp 2] := rfl
@[go_sem] theorem cb53 : callable Tryz.prog 53 = true := by kernel_rfl
theorem nt54 : Tryz.f54.ntmps = 52 := rfl
theorem rs54 : Tryz.f54.results.toList = [.tmp 2, .tmp 3, .tmp 4] := rfl
@[go_sem] theorem cb54 : callable Tryz.prog 54 = true := by kernel_rfl
theorem nt55 : Tryz.f55.ntmps = 38 := rfl
theorem rs55 : Tryz.f55.results.toList = [.tmp 2] := rfl
@[go_sem] theorem cb55 : callable Tryz.prog 55 = true := by kernel_rfl
theorem nt56 : Tryz.f56.ntmps = 61 := rfl
theorem rs56 : Tryz.f56.results.toList = [.tmp 8] := rfl
@[go_sem] theorem cb56 : callable Tryz.prog 56 = true := by kernel_rfl
theorem nt57 : Tryz.f57.ntmps = 34 := rfl
theorem rs57 : Tryz.f57.results.toList = [.tmp 2] := rfl
@[go_sem] theorem cb57 : callable Tryz.prog 57 = true := by kernel_rfl
theorem nt58 : Tryz.f58.ntmps = 18 := rfl
theorem rs58 : Tryz.f58.results.toList = [.tmp 7] := rfl
@[go_sem] theorem cb58 : callable Tryz.prog 58 = true := by kernel_rfl
theorem nt59 : Tryz.f59.ntmps = 37 := rfl
theorem rs59 : Tryz.f59.results.toList = [.tmp 3] := rfl
@[go_sem] theorem cb59 : callable Tryz.prog 59 = true := by kernel_rfl
theorem nt60 : Tryz.f60.ntmps = 18 := rfl
theorem rs60 : Tryz.f60.results.toList = [] := rfl
@[go_sem] theorem cb60 : callable Tryz.prog 60 = true := by kernel_rfl
theorem nt61 : Tryz.f61.ntmps = 18 := rfl
theorem rs61 : Tryz.f61.results.toList = [] := rfl
@[go_sem] theorem cb61 : callable Tryz.prog 61 = true := by kernel_rfl
theorem nt62 : Tryz.f62.ntmps = 19 := rfl
theorem rs62 : Tryz.f62.results.toList = [.tmp 4, .tmp 5] := rfl
@[go_sem] theorem cb62 : callable Tryz.prog 62 = true := by kernel_rfl
theorem nt63 : Tryz.f63.ntmps = 5 := rfl
theorem rs63 : Tryz.f63.results.toList = [.tmp 2] := rfl
@[go_sem] theorem cb63 : callable Tryz.prog 63 = true := by kernel_rfl
theorem nt64 : Tryz.f64.ntmps = 37 := rfl
theorem rs64 : Tryz.f64.results.toList = [.tmp 2] := rfl
@[go_sem] theorem cb64 : callable Tryz.prog 64 = true := by kernel_rfl
theorem nt65 : Tryz.f65.ntmps = 76 := rfl
theorem rs65 : Tryz.f65.results.toList = [.tmp 4] := rfl
@[go_sem] theorem cb65 : callable Tryz.prog 65 = true := by kernel_rfl
theorem nt66 : Tryz.f66.ntmps = 14 := rfl
theorem rs66 : Tryz.f66.results.toList = [.tmp 2] := rfl
@[go_sem] theorem cb66 : callable Tryz.prog 66 = true := by kernel_rfl
theorem nt67 : Tryz.f67.ntmps = 98 := rfl
theorem rs67 : Tryz.f67.results.toList = [.tmp 4] := rfl
@[go_sem] theorem cb67 : callable Tryz.prog 67 = true := by kernel_rfl
theorem nt68 : Tryz.f68.ntmps = 67 := rfl
theorem rs68 : Tryz.f68.results.toList = [.tmp 2] := rfl
@[go_sem] theorem cb68 : callable Tryz.prog 68 = true := by kernel_rfl
theorem nt69 : Tryz.f69.ntmps = 47 := rfl
theorem rs69 : Tryz.f69.results.toList = [.tmp 2] := rfl
@[go_sem] theorem cb69 : callable Tryz.prog 69 = true := by kernel_rfl
theorem nt70 : Tryz.f70.ntmps = 75 := rfl
theorem rs70 : Tryz.f70.results.toList = [.tmp 2] := rfl
@[go_sem] theorem cb70 : callable Tryz.prog 70 = true := by kernel_rfl
theorem nt71 : Tryz.f71.ntmps = 64 := rfl
theorem rs71 : Tryz.f71.results.toList = [.tmp 2] := rfl
@[go_sem] theorem cb71 : callable Tryz.prog 71 = true := by kernel_rfl
theorem nt72 : Tryz.f72.ntmps = 40 := rfl
theorem rs72 : Tryz.f72.results.toList = [.tmp 2] := rfl
@[go_sem] theorem cb72 : callable Tryz.prog 72 = true := by kernel_rfl
theorem nt73 : Tryz.f73.ntmps = 5 := rfl
theorem rs73 : Tryz.f73.results.toList = [.tmp 2] := rfl
@[go_sem] theorem cb73 : callable Tryz.prog 73 = true := by kernel_rfl
theorem nt74 : Tryz.f74.ntmps = 82 := rfl
theorem rs74 : Tryz.f74.results.toList = [.tmp 2] := rfl
@[go_sem] theorem cb74 : callable Tryz.prog 74 = true := by kernel_rfl
theorem nt75 : Tryz.f75.ntmps = 55 := rfl
theorem rs75 : Tryz.f75.results.toList = [.tmp 2] := rfl
@[go_sem] theorem cb75 : callable Tryz.prog 75 = true := by kernel_rfl
theorem nt76 : Tryz.f76.ntmps = 8 := rfl
theorem rs76 : Tryz.f76.results.toList = [.tmp 2] := rfl
@[go_sem] theorem cb76 : callable Tryz.prog 76 = true := by kernel_rfl
theorem nt77 : Tryz.f77.ntmps = 2 := rfl
theorem rs77 : Tryz.f77.results.toList = [.tmp 0] := rfl
@[go_sem] theorem cb77 : callable Tryz.prog 77 = true := by kernel_rfl
theorem nt78 : Tryz.f78.ntmps = 2 := rfl
theorem rs78 : Tryz.f78.results.toList = [.tmp 0] := rfl
@[go_sem] theorem cb78 : callable Tryz.prog 78 = true := by kernel_rfl
theorem nt79 : Tryz.f79.ntmps = 16 := rfl
theorem rs79 : Tryz.f79.results.toList = [.tmp 2] := rfl
@[go_sem] theorem cb79 : callable Tryz.prog 79 = true := by kernel_rfl
theorem nt80 : Tryz.f80.ntmps = 25 := rfl
theorem rs80 : Tryz.f80.results.toList = [] := rfl
@[go_sem] theorem cb80 : callable Tryz.prog 80 = true := by kernel_rfl
theorem nt81 : Tryz.f81.ntmps = 52 := rfl
theorem rs81 : Tryz.f81.results.toList = [.cell 2 37] := rfl
@[go_sem] theorem cb81 : callable Tryz.prog 81 = true := by kernel_rfl
theorem nt82 : Tryz.f82.ntmps = 9 := rfl
theorem rs82 : Tryz.f82.results.toList = [.tmp 4] := rfl
@[go_sem] theorem cb82 : callable Tryz.prog 82 = true := by kernel_rfl
theorem nt83 : Tryz.f83.ntmps = 19 := rfl
theorem rs83 : Tryz.f83.results.toList = [.tmp 4] := rfl
@[go_sem] theorem cb83 : callable Tryz.prog 83 = true := by kernel_rfl
theorem nt84 : Tryz.f84.ntmps = 134 := rfl
theorem rs84 : Tryz.f84.results.toList = [] := rfl
@[go_sem] theorem cb84 : callable Tryz.prog 84 = true := by kernel_rfl
theorem nt85 : Tryz.f85.ntmps = 8 := rfl
theorem rs85 : Tryz.f85.results.toList = [.tmp 2] := rfl
@[go_sem] theorem cb85 : callable Tryz.prog 85 = true := by kernel_rfl
theorem nt86 : Tryz.f86.ntmps = 31 := rfl
theorem rs86 : Tryz.f86.results.toList = [] := rfl
@[go_sem] theorem cb86 : callable Tryz.prog 86 = true := by kernel_rfl
theorem nt87 : Tryz.f87.ntmps = 35 := rfl
theorem rs87 : Tryz.f87.results.toList = [] := rfl
@[go_sem] theorem cb87 : callable Tryz.prog 87 = true := by kernel_rfl
theorem nt88 : Tryz.f88.ntmps = 41 := rfl
theorem rs88 : Tryz.f88.results.toList = [.tmp 2, .tmp 3] := rfl
@[go_sem] theorem cb88 : callable Tryz.prog 88 = true := by kernel_rfl
theorem nt89 : Tryz.f89.ntmps = 19 := rfl
theorem rs89 : Tryz.f89.results.toList = [.tmp 4] := rfl
@[go_sem] theorem cb89 : callable Tryz.prog 89 = true := by kernel_rfl
theorem nt90 : Tryz.f90.ntmps = 34 := rfl
theorem rs90 : Tryz.f90.results.toList = [] := rfl
@[go_sem] theorem cb90 : callable Tryz.prog 90 = true := by kernel_rfl
theorem nt91 : Tryz.f91.ntmps = 41 := rfl
theorem rs91 : Tryz.f91.results.toList = [.tmp 2, .tmp 3] := rfl
@[go_sem] theorem cb91 : callable Tryz.prog 91 = true := by kernel_rfl
theorem nt92 : Tryz.f92.ntmps = 20 := rfl
theorem rs92 : Tryz.f92.results.toList = [] := rfl
@[go_sem] theorem cb92 : callable Tryz.prog 92 = true := by kernel_rfl
theorem nt93 : Tryz.f93.ntmps = 76 := rfl
theorem rs93 : Tryz.f93.results.toList = [] := rfl
@[go_sem] theorem cb93 : callable Tryz.prog 93 = true := by kernel_rfl
theorem nt94 : Tryz.f94.ntmps = 27 := rfl
theorem rs94 : Tryz.f94.results.toList = [.tmp 2] := rfl
@[go_sem] theorem cb94 : callable Tryz.prog 94 = true := by kernel_rfl
theorem nt95 : Tryz.f95.ntmps = 13 := rfl
theorem rs95 : Tryz.f95.results.toList = [.tmp 2] := rfl
@[go_sem] theorem cb95 : callable Tryz.prog 95 = true := by kernel_rfl
theorem nt96 : Tryz.f96.ntmps = 19 := rfl
theorem rs96 : Tryz.f96.results.toList = [.tmp 4] := rfl
@[go_sem] theorem cb96 : callable Tryz.prog 96 = true := by kernel_rfl
theorem nt97 : Tryz.f97.ntmps = 9 := rfl
theorem rs97 : Tryz.f97.results.toList = [.tmp 3] := rfl
@[go_sem] theorem cb97 : callable Tryz.prog 97 = true := by kernel_rfl
theorem nt98 : Tryz.f98.ntmps = 89 := rfl
theorem rs98 : Tryz.f98.results.toList = [.tmp 2] := rfl
@[go_sem] theorem cb98 : callable Tryz.prog 98 = true := by kernel_rfl
theorem nt99 : Tryz.f99.ntmps = 42 := rfl
theorem rs99 : Tryz.f99.results.toList = [.tmp 8] := rfl
@[go_sem] theorem cb99 : callable Tryz.prog 99 = true := by kernel_rfl
theorem nt100 : Tryz.f100.ntmps = 224 := rfl
theorem rs100 : Tryz.f100.results.toList = [.cell 10 84] := rfl
@[go_sem] theorem cb100 : callable Tryz.prog 100 = true := by kernel_rfl
theorem nt101 : Tryz.f101.ntmps = 15 := rfl
theorem rs101 : Tryz.f101.results.toList = [.tmp 4] := rfl
@[go_sem] theorem cb101 : callable Tryz.prog 101 = true := by kernel_rfl
theorem nt102 : Tryz.f102.ntmps = 49 := rfl
theorem rs102 : Tryz.f102.results.toList = [.tmp 2, .tmp 3, .tmp 4] := rfl
@[go_sem] theorem cb102 : callable Tryz.prog 102 = true := by kernel_rfl
theorem nt103 : Tryz.f103.ntmps = 57 := rfl
theorem rs103 : Tryz.f103.results.toList = [.tmp 2] := rfl
@[go_sem] theorem cb103 : callable Tryz.prog 103 = true := by kernel_rfl
theorem nt104 : Tryz.f104.ntmps = 130 := rfl
theorem rs104 : Tryz.f104.results.toList = [.tmp 4] := rfl
@[go_sem] theorem cb104 : callable Tryz.prog 104 = true := by kernel_rfl
theorem nt105 : Tryz.f105.ntmps = 35 := rfl
theorem rs105 : Tryz.f105.results.toList = [.cell 4 156] := rfl
@[go_sem] theorem cb105 : callable Tryz.prog 105 = true := by kernel_rfl
theorem nt106 : Tryz.f106.ntmps = 177 := rfl
theorem rs106 : Tryz.f106.results.toList = [.tmp 2, .tmp 3] := rfl
@[go_sem] theorem cb106 : callable Tryz.prog 106 = true := by kernel_rfl
theorem nt107 : Tryz.f107.ntmps = 31 := rfl
theorem rs107 : Tryz.f107.results.toList = [.cell 4 99, .tmp 5] := rfl
@[go_sem] theorem cb107 : callable Tryz.prog 107 = true := by kernel_rfl
theorem nt108 : Tryz.f108.ntmps = 22 := rfl
theorem rs108 : Tryz.f108.results.toList = [.tmp 5] := rfl
@[go_sem] theorem cb108 : callable Tryz.prog 108 = true := by kernel_rfl
theorem nt109 : Tryz.f109.ntmps = 72 := rfl
theorem rs109 : Tryz.f109.results.toList = [.tmp 4] := rfl
@[go_sem] theorem cb109 : callable Tryz.prog 109 = true := by kernel_rfl
theorem nt110 : Tryz.f110.ntmps = 115 := rfl
theorem rs110 : Tryz.f110.results.toList = [.tmp 2] := rfl
@[go_sem] theorem cb110 : callable Tryz.prog 110 = true := by kernel_rfl
theorem nt111 : Tryz.f111.ntmps = 52 := rfl
theorem rs111 : Tryz.f111.results.toList = [.tmp 2] := rfl
@[go_sem] theorem cb111 : callable Tryz.prog 111 = true := by kernel_rfl
theorem nt112 : Tryz.f112.ntmps = 11 := rfl
theorem rs112 : Tryz.f112.results.toList = [.tmp 4] := rfl
@[go_sem] theorem cb112 : callable Tryz.prog 112 = true := by kernel_rfl
theorem nt113 : Tryz.f113.ntmps = 9 := rfl
theorem rs113 : Tryz.f113.results.toList = [.tmp 4] := rfl
@[go_sem] theorem cb113 : callable Tryz.prog 113 = true := by kernel_rfl
theorem nt114 : Tryz.f114.ntmps = 8 := rfl
theorem rs114 : Tryz.f114.results.toList = [.tmp 3] := rfl
@[go_sem] theorem cb114 : callable Tryz.prog 114 = true := by kernel_rfl
theorem nt115 : Tryz.f115.ntmps = 33 := rfl
theorem rs115 : Tryz.f115.results.toList = [.tmp 6] := rfl
@[go_sem] theorem cb115 : callable Tryz.prog 115 = true := by kernel_rfl
theorem nt116 : Tryz.f116.ntmps = 35 := rfl
theorem rs116 : Tryz.f116.results.toList = [.tmp 2] := rfl
@[go_sem] theorem cb116 : callable Tryz.prog 116 = true := by kernel_rfl
theorem nt117 : Tryz.f117.ntmps = 92 := rfl
theorem rs117 : Tryz.f117.results.toList = [.tmp 2] := rfl
@[go_sem] theorem cb117 : callable Tryz.prog 117 = true := by kernel_rfl
theorem nt118 : Tryz.f118.ntmps = 13 := rfl
theorem rs118 : Tryz.f118.results.toList = [.tmp 4] := rfl
@[go_sem] theorem cb118 : callable Tryz.prog 118 = true := by kernel_rfl
theorem nt119 : Tryz.f119.ntmps = 66 := rfl
theorem rs119 : Tryz.f119.results.toList = [.tmp 4] := rfl
@[go_sem] theorem cb119 : callable Tryz.prog 119 = true := by kernel_rfl
theorem nt120 : Tryz.f120.ntmps = 47 := rfl
theorem rs120 : Tryz.f120.results.toList = [.tmp 6] := rfl
@[go_sem] theorem cb120 : callable Tryz.prog 120 = true := by kernel_rfl
theorem nt121 : Tryz.f121.ntmps = 12 := rfl
theorem rs121 : Tryz.f121.results.toList = [.tmp 4] := rfl
@[go_sem] theorem cb121 : callable Tryz.prog 121 = true := by kernel_rfl
theorem nt122 : Tryz.f122.ntmps = 7 := rfl
theorem rs122 : Tryz.f122.results.toList = [.tmp 3] := rfl
@[go_sem] theorem cb122 : callable Tryz.prog 122 = true := by kernel_rfl
theorem nt123 : Tryz.f123.ntmps = 12 := rfl
theorem rs123 : Tryz.f123.results.toList = [.tmp 4] := rfl
@[go_sem] theorem cb123 : callable Tryz.prog 123 = true := by kernel_rfl
theorem nt124 : Tryz.f124.ntmps = 7 := rfl
theorem rs124 : Tryz.f124.results.toList = [.tmp 3] := rfl
@[go_sem] theorem cb124 : callable Tryz.prog 124 = true := by kernel_rfl
theorem nt125 : Tryz.f125.ntmps = 7 := rfl
theorem rs125 : Tryz.f125.results.toList = [] := rfl
@[go_sem] theorem cb125 : callable Tryz.prog 125 = true := by kernel_rfl
theorem nt126 : Tryz.f126.ntmps = 9 := rfl
theorem rs126 : Tryz.f126.results.toList = [.tmp 2] := rfl
@[go_sem] theorem cb126 : callable Tryz.prog 126 = true := by kernel_rfl
theorem nt127 : Tryz.f127.ntmps = 13 := rfl
theorem rs127 : Tryz.f127.results.toList = [.tmp 2] := rfl
@[go_sem] theorem cb127 : callable Tryz.prog 127 = true := by kernel_rfl
theorem nt128 : Tryz.f128.ntmps = 54 := rfl
theorem rs128 : Tryz.f128.results.toList = [.tmp 4, .tmp 5] := rfl
@[go_sem] theorem cb128 : callable Tryz.prog 128 = true := by kernel_rfl
theorem nt129 : Tryz.f129.ntmps = 2 := rfl
theorem rs129 : Tryz.f129.results.toList = [.tmp 0] := rfl
@[go_sem] theorem cb129 : callable Tryz.prog 129 = true := by kernel_rfl
theorem nt130 : Tryz.f130.ntmps = 22 := rfl
theorem rs130 : Tryz.f130.results.toList = [.tmp 2] := rfl
@[go_sem] theorem cb130 : callable Tryz.prog 130 = true := by kernel_rfl
theorem nt131 : Tryz.f131.ntmps = 43 := rfl
theorem rs131 : Tryz.f131.results.toList = [.tmp 4] := rfl
@[go_sem] theorem cb131 : callable Tryz.prog 131 = true := by kernel_rfl
theorem nt132 : Tryz.f132.ntmps = 9 := rfl
theorem rs132 : Tryz.f132.results.toList = [.tmp 4] := rfl
@[go_sem] theorem cb132 : callable Tryz.prog 132 = true := by kernel_rfl
theorem nt133 : Tryz.f133.ntmps = 22 := rfl
theorem rs133 : Tryz.f133.results.toList = [.tmp 2] := rfl
@[go_sem] theorem cb133 : callable Tryz.prog 133 = true := by kernel_rfl
theorem nt134 : Tryz.f134.ntmps = 2 := rfl
theorem rs134 : Tryz.f134.results.toList = [.tmp 0] := rfl
@[go_sem] theorem cb134 : callable Tryz.prog 134 = true := by kernel_rfl
theorem nt135 : Tryz.f135.ntmps = 20 := rfl
theorem rs135 : Tryz.f135.results.toList = [] := rfl
@[go_sem] theorem cb135 : callable Tryz.prog 135 = true := by kernel_rfl
theorem nt136 : Tryz.f136.ntmps = 4 := rfl
theorem rs136 : Tryz.f136.results.toList = [.tmp 2] := rfl
@[go_sem] theorem cb136 : callable Tryz.prog 136 = true := by kernel_rfl
theorem nt137 : Tryz.f137.ntmps = 21 := rfl
theorem rs137 : Tryz.f137.results.toList = [.tmp 2] := rfl
@[go_sem] theorem cb137 : callable Tryz.prog 137 = true := by kernel_rfl
theorem nt138 : Tryz.f138.ntmps = 12 := rfl
theorem rs138 : Tryz.f138.results.toList = [.tmp 2] := rfl
@[go_sem] theorem cb138 : callable Tryz.prog 138 = true := by kernel_rfl
theorem nt139 : Tryz.f139.ntmps = 35 := rfl
theorem rs139 : Tryz.f139.results.toList = [.tmp 2] := rfl
@[go_sem] theorem cb139 : callable Tryz.prog 139 = true := by kernel_rfl
theorem nt140 : Tryz.f140.ntmps = 9 := rfl
theorem rs140 : Tryz.f140.results.toList = [.tmp 3] := rfl
@[go_sem] theorem cb140 : callable Tryz.prog 140 = true := by kernel_rfl
theorem nt141 : Tryz.f141.ntmps = 9 := rfl
theorem rs141 : Tryz.f141.results.toList = [.tmp 4] := rfl
@[go_sem] theorem cb141 : callable Tryz.prog 141 = true := by kernel_rfl
theorem nt142 : Tryz.f142.ntmps = 13 := rfl
theorem rs142 : Tryz.f142.results.toList = [.tmp 2] := rfl
@[go_sem] theorem cb142 : callable Tryz.prog 142 = true := by kernel_rfl
theorem nt143 : Tryz.f143.ntmps = 5 := rfl
theorem rs143 : Tryz.f143.results.toList = [.tmp 2] := rfl
@[go_sem] theorem cb143 : callable Tryz.prog 143 = true := by kernel_rfl
theorem nt144 : Tryz.f144.ntmps = 16 := rfl
theorem rs144 : Tryz.f144.results.toList = [.tmp 4] := rfl
@[go_sem] theorem cb144 : callable Tryz.prog 144 = true := by kernel_rfl
theorem nt145 : Tryz.f145.ntmps = 37 := rfl
theorem rs145 : Tryz.f145.results.toList = [.tmp 4] := rfl
@[go_sem] theorem cb145 : callable Tryz.prog 145 = true := by kernel_rfl
theorem nt146 : Tryz.f146.ntmps = 178 := rfl
theorem rs146 : Tryz.f146.results.toList = [] := rfl
@[go_sem] theorem cb146 : callable Tryz.prog 146 = true := by kernel_rfl
theorem nt147 : Tryz.f147.ntmps = 30 := rfl
theorem rs147 : Tryz.f147.results.toList = [] := rfl
@[go_sem] theorem cb147 : callable Tryz.prog 147 = true := by kernel_rfl
theorem nt148 : Tryz.f148.ntmps = 8 := rfl
theorem rs148 : Tryz.f148.results.toList = [.tmp 2] := rfl
@[go_sem] theorem cb148 : callable Tryz.prog 148 = true := by kernel_rfl
theorem nt149 : Tryz.f149.ntmps = 8 := rfl
theorem rs149 : Tryz.f149.results.toList = [.tmp 2] := rfl
@[go_sem] theorem cb149 : callable Tryz.prog 149 = true := by kernel_rfl
theorem nt150 : Tryz.f150.ntmps = 8 := rfl
theorem rs150 : Tryz.f150.results.toList = [.tmp 2] := rfl
@[go_sem] theorem cb150 : callable Tryz.prog 150 = true := by kernel_rfl
theorem nt151 : Tryz.f151.ntmps = 8 := rfl
theorem rs151 : Tryz.f151.results.toList = [.cell 2 43] := rfl
@[go_sem] theorem cb151 : callable Tryz.prog 151 = true := by kernel_rfl
theorem nt152 : Tryz.f152.ntmps = 16 := rfl
theorem rs152 : Tryz.f152.results.toList = [.cell 2 50] := rfl
@[go_sem] theorem cb152 : callable Tryz.prog 152 = true := by kernel_rfl
theorem nt153 : Tryz.f153.ntmps = 19 := rfl
theorem rs153 : Tryz.f153.results.toList = [.tmp 4] := rfl
@[go_sem] theorem cb153 : callable Tryz.prog 153 = true := by kernel_rfl
theorem nt154 : Tryz.f154.ntmps = 49 := rfl
theorem rs154 : Tryz.f154.results.toList = [] := rfl
@[go_sem] theorem cb154 : callable Tryz.prog 154 = true := by kernel_rfl
theorem nt155 : Tryz.f155.ntmps = 56 := rfl
theorem rs155 : Tryz.f155.results.toList = [] := rfl
@[go_sem] theorem cb155 : callable Tryz.prog 155 = true := by kernel_rfl
theorem nt156 : Tryz.f156.ntmps = 65 := rfl
theorem rs156 : Tryz.f156.results.toList = [] := rfl
@[go_sem] theorem cb156 : callable Tryz.prog 156 = true := by kernel_rfl
theorem nt157 : Tryz.f157.ntmps = 57 := rfl
theorem rs157 : Tryz.f157.results.toList = [.tmp 6, .tmp 7] := rfl
@[go_sem] theorem cb157 : callable Tryz.prog 157 = true := by kernel_rfl
theorem nt158 : Tryz.f158.ntmps = 32 := rfl
theorem rs158 : Tryz.f158.results.toList = [] := rfl
@[go_sem] theorem cb158 : callable Tryz.prog 158 = true := by kernel_rfl
theorem nt159 : Tryz.f159.ntmps = 133 := rfl
theorem rs159 : Tryz.f159.results.toList = [.tmp 6] := rfl
@[go_sem] theorem cb159 : callable Tryz.prog 159 = true := by kernel_rfl
theorem nt160 : Tryz.f160.ntmps = 17 := rfl
theorem rs160 : Tryz.f160.results.toList = [.tmp 4] := rfl
@[go_sem] theorem cb160 : callable Tryz.prog 160 = true := by kernel_rfl
theorem nt161 : Tryz.f161.ntmps = 84 := rfl
theorem rs161 : Tryz.f161.results.toList = [.tmp 8] := rfl
@[go_sem] theorem cb161 : callable Tryz.prog 161 = true := by kernel_rfl
theorem nt162 : Tryz.f162.ntmps = 168 := rfl
theorem rs162 : Tryz.f162.results.toList = [.tmp 8, .tmp 9] := rfl
@[go_sem] theorem cb162 : callable Tryz.prog 162 = true := by kernel_rfl
theorem nt163 : Tryz.f163.ntmps = 19 := rfl
theorem rs163 : Tryz.f163.results.toList = [.tmp 2] := rfl
@[go_sem] theorem cb163 : callable Tryz.prog 163 = true := by kernel_rfl
theorem nt164 : Tryz.f164.ntmps = 25 := rfl
theorem rs164 : Tryz.f164.results.toList = [.tmp 2] := rfl
@[go_sem] theorem cb164 : callable Tryz.prog 164 = true := by kernel_rfl
theorem nt165 : Tryz.f165.ntmps = 36 := rfl
theorem rs165 : Tryz.f165.results.toList = [.tmp 2] := rfl
@[go_sem] theorem cb165 : callable Tryz.prog 165 = true := by kernel_rfl
theorem nt166 : Tryz.f166.ntmps = 17 := rfl
theorem rs166 : Tryz.f166.results.toList = [.tmp 2, .tmp 3] := rfl
@[go_sem] theorem cb166 : callable Tryz.prog 166 = true := by kernel_rfl
theorem nt167 : Tryz.f167.ntmps = 9 := rfl
theorem rs167 : Tryz.f167.results.toList = [.tmp 2] := rfl
@[go_sem] theorem cb167 : callable Tryz.prog 167 = true := by kernel_rfl
theorem nt168 : Tryz.f168.ntmps = 44 := rfl
theorem rs168 : Tryz.f168.results.toList = [.tmp 2] := rfl
@[go_sem] theorem cb168 : callable Tryz.prog 168 = true := by kernel_rfl
theorem nt169 : Tryz.f169.ntmps = 50 := rfl
theorem rs169 : Tryz.f169.results.toList = [.tmp 2] := rfl
@[go_sem] theorem cb169 : callable Tryz.prog 169 = true := by kernel_rfl
theorem nt170 : Tryz.f170.ntmps = 182 := rfl
theorem rs170 : Tryz.f170.results.toList = [.tmp 8, .tmp 9] := rfl
@[go_sem] theorem cb170 : callable Tryz.prog 170 = true := by kernel_rfl
theorem nt171 : Tryz.f171.ntmps = 8 := rfl
theorem rs171 : Tryz.f171.results.toList = [.tmp 2] := rfl
@[go_sem] theorem cb171 : callable Tryz.prog 171 = true := by kernel_rfl
theorem nt172 : Tryz.f172.ntmps = 8 := rfl
theorem rs172 : Tryz.f172.results.toList = [.cell 2 84] := rfl
@[go_sem] theorem cb172 : callable Tryz.prog 172 = true := by kernel_rfl
theorem nt173 : Tryz.f173.ntmps = 10 := rfl
theorem rs173 : Tryz.f173.results.toList = [.cell 2 84] := rfl
@[go_sem] theorem cb173 : callable Tryz.prog 173 = true := by kernel_rfl
theorem nt174 : Tryz.f174.ntmps = 9 := rfl
theorem rs174 : Tryz.f174.results.toList = [.tmp 2] := rfl
@[go_sem] theorem cb174 : callable Tryz.prog 174 = true := by kernel_rfl
theorem nt175 : Tryz.f175.ntmps = 21 := rfl
theorem rs175 : Tryz.f175.results.toList = [.cell 4 84] := rfl
@[go_sem] theorem cb175 : callable Tryz.prog 175 = true := by kernel_rfl
theorem nt176 : Tryz.f176.ntmps = 49 := rfl
theorem rs176 : Tryz.f176.results.toList = [.tmp 4] := rfl
@[go_sem] theorem cb176 : callable Tryz.prog 176 = true := by kernel_rfl
theorem nt177 : Tryz.f177.ntmps = 88 := rfl
theorem rs177 : Tryz.f177.results.toList = [.tmp 4] := rfl
@[go_sem] theorem cb177 : callable Tryz.prog 177 = true := by kernel_rfl
theorem nt178 : Tryz.f178.ntmps = 87 := rfl
theorem rs178 : Tryz.f178.results.toList = [.tmp 6, .tmp 7] := rfl
@[go_sem] theorem cb178 : callable Tryz.prog 178 = true := by kernel_rfl
theorem nt179 : Tryz.f179.ntmps = 59 := rfl
theorem rs179 : Tryz.f179.results.toList = [.tmp 4] := rfl
@[go_sem] theorem cb179 : callable Tryz.prog 179 = true := by kernel_rfl
theorem nt180 : Tryz.f180.ntmps = 6 := rfl
theorem rs180 : Tryz.f180.results.toList = [.tmp 2] := rfl
@[go_sem] theorem cb180 : callable Tryz.prog 180 = true := by kernel_rfl
theorem nt181 : Tryz.f181.ntmps = 18 := rfl
theorem rs181 : Tryz.f181.results.toList = [.tmp 2] := rfl
@[go_sem] theorem cb181 : callable Tryz.prog 181 = true := by kernel_rfl
theorem nt182 : Tryz.f182.ntmps = 21 := rfl
theorem rs182 : Tryz.f182.results.toList = [.tmp 4] := rfl
@[go_sem] theorem cb182 : callable Tryz.prog 182 = true := by kernel_rfl
theorem nt183 : Tryz.f183.ntmps = 104 := rfl
theorem rs183 : Tryz.f183.results.toList = [.tmp 4] := rfl
@[go_sem] theorem cb183 : callable Tryz.prog 183 = true := by kernel_rfl
theorem nt184 : Tryz.f184.ntmps = 23 := rfl
theorem rs184 : Tryz.f184.results.toList = [.tmp 6] := rfl
@[go_sem] theorem cb184 : callable Tryz.prog 184 = true := by kernel_rfl
theorem nt185 : Tryz.f185.ntmps = 22 := rfl
theorem rs185 : Tryz.f185.results.toList = [.tmp 7, .tmp 8] := rfl
@[go_sem] theorem cb185 : callable Tryz.prog 185 = true := by kernel_rfl
theorem nt186 : Tryz.f186.ntmps = 2 := rfl
theorem rs186 : Tryz.f186.results.toList = [.tmp 0] := rfl
@[go_sem] theorem cb186 : callable Tryz.prog 186 = true := by kernel_rfl
theorem nt187 : Tryz.f187.ntmps = 31 := rfl
theorem rs187 : Tryz.f187.results.toList = [.cell 4 99, .tmp 5] := rfl
@[go_sem] theorem cb187 : callable Tryz.prog 187 = true := by kernel_rfl
theorem nt188 : Tryz.f188.ntmps = 235 := rfl
theorem rs188 : Tryz.f188.results.toList = [.tmp 4, .tmp 5] := rfl
@[go_sem] theorem cb188 : callable Tryz.prog 188 = true := by kernel_rfl
theorem nt189 : Tryz.f189.ntmps = 17 := rfl
theorem rs189 : Tryz.f189.results.toList = [.tmp 2] := rfl
@[go_sem] theorem cb189 : callable Tryz.prog 189 = true := by kernel_rfl
theorem nt190 : Tryz.f190.ntmps = 71 := rfl
theorem rs190 : Tryz.f190.results.toList = [.tmp 2] := rfl
@[go_sem] theorem cb190 : callable Tryz.prog 190 = true := by kernel_rfl
theorem nt191 : Tryz.f191.ntmps = 119 := rfl
theorem rs191 : Tryz.f191.results.toList = [.tmp 4, .tmp 5] := rfl
@[go_sem] theorem cb191 : callable Tryz.prog 191 = true := by kernel_rfl
theorem nt192 : Tryz.f192.ntmps = 40 := rfl
theorem rs192 : Tryz.f192.results.toList = [.cell 4 50, .tmp 5] := rfl
@[go_sem] theorem cb192 : callable Tryz.prog 192 = true := by kernel_rfl
theorem nt193 : Tryz.f193.ntmps = 9 := rfl
theorem rs193 : Tryz.f193.results.toList = [.tmp 4] := rfl
@[go_sem] theorem cb193 : callable Tryz.prog 193 = true := by kernel_rfl
theorem nt194 : Tryz.f194.ntmps = 32 := rfl
theorem rs194 : Tryz.f194.results.toList = [.tmp 5] := rfl
@[go_sem] theorem cb194 : callable Tryz.prog 194 = true := by kernel_rfl
theorem nt195 : Tryz.f195.ntmps = 32 := rfl
theorem rs195 : Tryz.f195.results.toList = [.tmp 5] := rfl
@[go_sem] theorem cb195 : callable Tryz.prog 195 = true := by kernel_rfl
theorem nt196 : Tryz.f196.ntmps = 9 := rfl
theorem rs196 : Tryz.f196.results.toList = [.tmp 2] := rfl
@[go_sem] theorem cb196 : callable Tryz.prog 196 = true := by kernel_rfl
theorem nt197 : Tryz.f197.ntmps = 6 := rfl
theorem rs197 : Tryz.f197.results.toList = [.tmp 2] := rfl
@[go_sem] theorem cb197 : callable Tryz.prog 197 = true := by kernel_rfl
theorem nt198 : Tryz.f198.ntmps = 17 := rfl
theorem rs198 : Tryz.f198.results.toList = [.tmp 4] := rfl
@[go_sem] theorem cb198 : callable Tryz.prog 198 = true := by kernel_rfl
theorem nt199 : Tryz.f199.ntmps = 23 := rfl
theorem rs199 : Tryz.f199.results.toList = [.tmp 4] := rfl
@[go_sem] theorem cb199 : callable Tryz.prog 199 = true := by kernel_rfl
theorem nt200 : Tryz.f200.ntmps = 21 := rfl
theorem rs200 : Tryz.f200.results.toList = [.cell 2 234, .tmp 3] := rfl
@[go_sem] theorem cb200 : callable Tryz.prog 200 = true := by kernel_rfl
theorem nt201 : Tryz.f201.ntmps = 16 := rfl
theorem rs201 : Tryz.f201.results.toList = [.tmp 4] := rfl
@[go_sem] theorem cb201 : callable Tryz.prog 201 = true := by kernel_rfl
theorem nt202 : Tryz.f202.ntmps = 22 := rfl
theorem rs202 : Tryz.f202.results.toList = [.tmp 4] := rfl
@[go_sem] theorem cb202 : callable Tryz.prog 202 = true := by kernel_rfl
theorem nt203 : Tryz.f203.ntmps = 23 := rfl
theorem rs203 : Tryz.f203.results.toList = [.tmp 4] := rfl
@[go_sem] theorem cb203 : callable Tryz.prog 203 = true := by kernel_rfl
theorem nt204 : Tryz.f204.ntmps = 34 := rfl
theorem rs204 : Tryz.f204.results.toList = [.tmp 4] := rfl
@[go_sem] theorem cb204 : callable Tryz.prog 204 = true := by kernel_rfl
theorem nt205 : Tryz.f205.ntmps = 8 := rfl
theorem rs205 : Tryz.f205.results.toList = [.tmp 4] := rfl
@[go_sem] theorem cb205 : callable Tryz.prog 205 = true := by kernel_rfl
theorem nt206 : Tryz.f206.ntmps = 106 := rfl
theorem rs206 : Tryz.f206.results.toList = [.tmp 2] := rfl
@[go_sem] theorem cb206 : callable Tryz.prog 206 = true := by kernel_rfl
@[go_sem] theorem cb207 : callable Tryz.prog 207 = false := by kernel_rfl
theorem nt208 : Tryz.f208.ntmps = 66 := rfl
theorem rs208 : Tryz.f208.results.toList = [.tmp 2] := rfl
@[go_sem] theorem cb208 : callable Tryz.prog 208 = true := by kernel_rfl
theorem nt209 : Tryz.f209.ntmps = 19 := rfl
theorem rs209 : Tryz.f209.results.toList = [.tmp 4] := rfl
@[go_sem] theorem cb209 : callable Tryz.prog 209 = true := by kernel_rfl
theorem nt210 : Tryz.f210.ntmps = 54 := rfl
theorem rs210 : Tryz.f210.results.toList = [.tmp 4] := rfl
@[go_sem] theorem cb210 : callable Tryz.prog 210 = true := by kernel_rfl
theorem nt211 : Tryz.f211.ntmps = 125 := rfl
theorem rs211 : Tryz.f211.results.toList = [.tmp 4] := rfl
@[go_sem] theorem cb211 : callable Tryz.prog 211 = true := by kernel_rfl
theorem nt212 : Tryz.f212.ntmps = 21 := rfl
theorem rs212 : Tryz.f212.results.toList = [.tmp 2] := rfl
@[go_sem] theorem cb212 : callable Tryz.prog 212 = true := by kernel_rfl
theorem nt213 : Tryz.f213.ntmps = 31 := rfl
theorem rs213 : Tryz.f213.results.toList = [] := rfl
@[go_sem] theorem cb213 : callable Tryz.prog 213 = true := by kernel_rfl
theorem nt214 : Tryz.f214.ntmps = 3 := rfl
theorem rs214 : Tryz.f214.results.toList = [.tmp 0] := rfl
@[go_sem] theorem cb214 : callable Tryz.prog 214 = true := by kernel_rfl
theorem nt215 : Tryz.f215.ntmps = 35 := rfl
theorem rs215 : Tryz.f215.results.toList = [] := rfl
@[go_sem] theorem cb215 : callable Tryz.prog 215 = true := by kernel_rfl
theorem nt216 : Tryz.f216.ntmps = 2 := rfl
theorem rs216 : Tryz.f216.results.toList = [.tmp 0] := rfl
@[go_sem] theorem cb216 : callable Tryz.prog 216 = true := by kernel_rfl
@[go_sem] theorem cb217 : callable Tryz.prog 217 = false := by kernel_rfl
theorem nt218 : Tryz.f218.ntmps = 8 := rfl
theorem rs218 : Tryz.f218.results.toList = [.tmp 2] := rfl
@[go_sem] theorem cb218 : callable Tryz.prog 218 = true := by kernel_rfl
theorem nt219 : Tryz.f219.ntmps = 8 := rfl
theorem rs219 : Tryz.f219.results.toList = [.tmp 2] := rfl
@[go_sem] theorem cb219 : callable Tryz.prog 219 = true := by kernel_rfl
theorem nt220 : Tryz.f220.ntmps = 76 := rfl
theorem rs220 : Tryz.f220.results.toList = [] := rfl
@[go_sem] theorem cb220 : callable Tryz.prog 220 = true := by kernel_rfl
theorem nt221 : Tryz.f221.ntmps = 7 := rfl
theorem rs221 : Tryz.f221.results.toList = [.tmp 2] := rfl
@[go_sem] theorem cb221 : callable Tryz.prog 221 = true := by kernel_rfl
theorem nt222 : Tryz.f222.ntmps = 33 := rfl
theorem rs222 : Tryz.f222.results.toList = [.tmp 2] := rfl
@[go_sem] theorem cb222 : callable Tryz.prog 222 = true := by kernel_rfl
theorem nt223 : Tryz.f223.ntmps = 15 := rfl
theorem rs223 : Tryz.f223.results.toList = [.tmp 6] := rfl
@[go_sem] theorem cb223 : callable Tryz.prog 223 = true := by kernel_rfl
theorem nt224 : Tryz.f224.ntmps = 36 := rfl
theorem rs224 : Tryz.f224.results.toList = [.tmp 10] := rfl
@[go_sem] theorem cb224 : callable Tryz.prog 224 = true := by kernel_rfl
theorem nt225 : Tryz.f225.ntmps = 6 := rfl
theorem rs225 : Tryz.f225.results.toList = [.tmp 2] := rfl
@[go_sem] theorem cb225 : callable Tryz.prog 225 = true := by kernel_rfl
theorem nt226 : Tryz.f226.ntmps = 27 := rfl
theorem rs226 : Tryz.f226.results.toList = [.tmp 4] := rfl
@[go_sem] theorem cb226 : callable Tryz.prog 226 = true := by kernel_rfl
theorem nt227 : Tryz.f227.ntmps = 9 := rfl
theorem rs227 : Tryz.f227.results.toList = [.tmp 4] := rfl
@[go_sem] theorem cb227 : callable Tryz.prog 227 = true := by kernel_rfl
theorem nt228 : Tryz.f228.ntmps = 5 := rfl
theorem rs228 : Tryz.f228.results.toList = [.tmp 2] := rfl
@[go_sem] theorem cb228 : callable Tryz.prog 228 = true := by kernel_rfl
theorem nt229 : Tryz.f229.ntmps = 10 := rfl
theorem rs229 : Tryz.f229.results.toList = [.tmp 2] := rfl
@[go_sem] theorem cb229 : callable Tryz.prog 229 = true := by kernel_rfl
theorem nt230 : Tryz.f230.ntmps = 12 := rfl
theorem rs230 : Tryz.f230.results.toList = [.tmp 6] := rfl
@[go_sem] theorem cb230 : callable Tryz.prog 230 = true := by kernel_rfl
theorem nt231 : Tryz.f231.ntmps = 51 := rfl
theorem rs231 : Tryz.f231.results.toList = [.tmp 4, .tmp 5] := rfl
@[go_sem] theorem cb231 : callable Tryz.prog 231 = true := by kernel_rfl
theorem nt232 : Tryz.f232.ntmps = 135 := rfl
theorem rs232 : Tryz.f232.results.toList = [.tmp 6, .tmp 7] := rfl
@[go_sem] theorem cb232 : callable Tryz.prog 232 = true := by kernel_rfl
theorem nt233 : Tryz.f233.ntmps = 11 := rfl
theorem rs233 : Tryz.f233.results.toList = [.tmp 4] := rfl
@[go_sem] theorem cb233 : callable Tryz.prog 233 = true := by kernel_rfl
theorem nt234 : Tryz.f234.ntmps = 47 := rfl
theorem rs234 : Tryz.f234.results.toList = [.tmp 4] := rfl
@[go_sem] theorem cb234 : callable Tryz.prog 234 = true := by kernel_rfl
@[go_sem] theorem cb235 : callable Tryz.prog 235 = false := by kernel_rfl
theorem nt236 : Tryz.f236.ntmps = 25 := rfl
theorem rs236 : Tryz.f236.results.toList = [.cell 2 84] := rfl
@[go_sem] theorem cb236 : callable Tryz.prog 236 = true := by kernel_rfl
theorem nt237 : Tryz.f237.ntmps = 9 := rfl
theorem rs237 : Tryz.f237.results.toList = [.tmp 2] := rfl
@[go_sem] theorem cb237 : callable Tryz.prog 237 = true := by kernel_rfl
theorem nt238 : Tryz.f238.ntmps = 17 := rfl
theorem rs238 : Tryz.f238.results.toList = [.tmp 4] := rfl
@[go_sem] theorem cb238 : callable Tryz.prog 238 = true := by kernel_rfl
theorem nt239 : Tryz.f239.ntmps = 23 := rfl
theorem rs239 : Tryz.f239.results.toList = [.tmp 2] := rfl
@[go_sem] theorem cb239 : callable Tryz.prog 239 = true := by kernel_rfl
theorem nt240 : Tryz.f240.ntmps = 16 := rfl
theorem rs240 : Tryz.f240.results.toList = [.tmp 2] := rfl
@[go_sem] theorem cb240 : callable Tryz.prog 240 = true := by kernel_rfl
theorem nt241 : Tryz.f241.ntmps = 21 := rfl
theorem rs241 : Tryz.f241.results.toList = [.tmp 2] := rfl
@[go_sem] theorem cb241 : callable Tryz.prog 241 = true := by kernel_rfl
theorem nt242 : Tryz.f242.ntmps = 11 := rfl
theorem rs242 : Tryz.f242.results.toList = [.tmp 3] := rfl
@[go_sem] theorem cb242 : callable Tryz.prog 242 = true := by kernel_rfl
theorem nt243 : Tryz.f243.ntmps = 17 := rfl
theorem rs243 : Tryz.f243.results.toList = [.tmp 2] := rfl
@[go_sem] theorem cb243 : callable Tryz.prog 243 = true := by kernel_rfl
theorem nt244 : Tryz.f244.ntmps = 19 := rfl
theorem rs244 : Tryz.f244.results.toList = [.tmp 4] := rfl
@[go_sem] theorem cb244 : callable Tryz.prog 244 = true := by kernel_rfl
theorem nt245 : Tryz.f245.ntmps = 8 := rfl
theorem rs245 : Tryz.f245.results.toList = [.tmp 3] := rfl
@[go_sem] theorem cb245 : callable Tryz.prog 245 = true := by kernel_rfl
theorem nt246 : Tryz.f246.ntmps = 42 := rfl
theorem rs246 : Tryz.f246.results.toList = [.tmp 4] := rfl
@[go_sem] theorem cb246 : callable Tryz.prog 246 = true := by kernel_rfl
theorem nt247 : Tryz.f247.ntmps = 8 := rfl
theorem rs247 : Tryz.f247.results.toList = [.tmp 2] := rfl
@[go_sem] theorem cb247 : callable Tryz.prog 247 = true := by kernel_rfl
theorem nt248 : Tryz.f248.ntmps = 8 := rfl
theorem rs248 : Tryz.f248.results.toList = [.tmp 3] := rfl
@[go_sem] theorem cb248 : callable Tryz.prog 248 = true := by kernel_rfl
theorem nt249 : Tryz.f249.ntmps = 9 := rfl
theorem rs249 : Tryz.f249.results.toList = [.tmp 4] := rfl
@[go_sem] theorem cb249 : callable Tryz.prog 249 = true := by kernel_rfl
theorem nt250 : Tryz.f250.ntmps = 9 := rfl
theorem rs250 : Tryz.f250.results.toList = [.tmp 3] := rfl
@[go_sem] theorem cb250 : callable Tryz.prog 250 = true := by kernel_rfl
theorem nt251 : Tryz.f251.ntmps = 56 := rfl
theorem rs251 : Tryz.f251.results.toList = [.tmp 4, .tmp 5] := rfl
@[go_sem] theorem cb251 : callable Tryz.prog 251 = true := by kernel_rfl
theorem nt252 : Tryz.f252.ntmps = 21 := rfl
theorem rs252 : Tryz.f252.results.toList = [.cell 4 43, .tmp 5] := rfl
@[go_sem] theorem cb252 : callable Tryz.prog 252 = true := by kernel_rfl
theorem nt253 : Tryz.f253.ntmps = 32 := rfl
theorem rs253 : Tryz.f253.results.toList = [.tmp 2] := rfl
@[go_sem] theorem cb253 : callable Tryz.prog 253 = true := by kernel_rfl
theorem nt254 : Tryz.f254.ntmps = 9 := rfl
theorem rs254 : Tryz.f254.results.toList = [.tmp 2] := rfl
@[go_sem] theorem cb254 : callable Tryz.prog 254 = true := by kernel_rfl
theorem nt255 : Tryz.f255.ntmps = 170 := rfl
theorem rs255 : Tryz.f255.results.toList = [.tmp 6, .tmp 7] := rfl
@[go_sem] theorem cb255 : callable Tryz.prog 255 = true := by kernel_rfl
theorem nt256 : Tryz.f256.ntmps = 19 := rfl
theorem rs256 : Tryz.f256.results.toList = [.tmp 4] := rfl
@[go_sem] theorem cb256 : callable Tryz.prog 256 = true := by kernel_rfl
theorem nt257 : Tryz.f257.ntmps = 10 := rfl
theorem rs257 : Tryz.f257.results.toList = [.tmp 4] := rfl
@[go_sem] theorem cb257 : callable Tryz.prog 257 = true := by kernel_rfl
theorem nt258 : Tryz.f258.ntmps = 19 := rfl
theorem rs258 : Tryz.f258.results.toList = [.tmp 2, .tmp 3] := rfl
@[go_sem] theorem cb258 : callable Tryz.prog 258 = true := by kernel_rfl
theorem nt259 : Tryz.f259.ntmps = 9 := rfl
theorem rs259 : Tryz.f259.results.toList = [.tmp 4] := rfl
@[go_sem] theorem cb259 : callable Tryz.prog 259 = true := by kernel_rfl
theorem nt260 : Tryz.f260.ntmps = 51 := rfl
theorem rs260 : Tryz.f260.results.toList = [.tmp 2, .tmp 3] := rfl
@[go_sem] theorem cb260 : callable Tryz.prog 260 = true := by kernel_rfl
theorem nt261 : Tryz.f261.ntmps = 21 := rfl
theorem rs261 : Tryz.f261.results.toList = [.tmp 6] := rfl
@[go_sem] theorem cb261 : callable Tryz.prog 261 = true := by kernel_rfl
theorem nt262 : Tryz.f262.ntmps = 65 := rfl
theorem rs262 : Tryz.f262.results.toList = [.tmp 4] := rfl
@[go_sem] theorem cb262 : callable Tryz.prog 262 = true := by kernel_rfl
theorem nt263 : Tryz.f263.ntmps = 19 := rfl
theorem rs263 : Tryz.f263.results.toList = [.tmp 2] := rfl
@[go_sem] theorem cb263 : callable Tryz.prog 263 = true := by kernel_rfl
theorem nt264 : Tryz.f264.ntmps = 15 := rfl
theorem rs264 : Tryz.f264.results.toList = [.tmp 2] := rfl
@[go_sem] theorem cb264 : callable Tryz.prog 264 = true := by kernel_rfl
theorem nt265 : Tryz.f265.ntmps = 15 := rfl
theorem rs265 : Tryz.f265.results.toList = [.tmp 2] := rfl
@[go_sem] theorem cb265 : callable Tryz.prog 265 = true := by kernel_rfl
theorem nt266 : Tryz.f266.ntmps = 167 := rfl
theorem rs266 : Tryz.f266.results.toList = [] := rfl
@[go_sem] theorem cb266 : callable Tryz.prog 266 = true := by kernel_rfl
theorem nt267 : Tryz.f267.ntmps = 102 := rfl
theorem rs267 : Tryz.f267.results.toList = [.tmp 10, .tmp 11] := rfl
@[go_sem] theorem cb267 : callable Tryz.prog 267 = true := by kernel_rfl
theorem nt268 : Tryz.f268.ntmps = 30 := rfl
theorem rs268 : Tryz.f268.results.toList = [.tmp 4, .tmp 5] := rfl
@[go_sem] theorem cb268 : callable Tryz.prog 268 = true := by kernel_rfl
theorem nt269 : Tryz.f269.ntmps = 8 := rfl
theorem rs269 : Tryz.f269.results.toList = [.tmp 4] := rfl
@[go_sem] theorem cb269 : callable Tryz.prog 269 = true := by kernel_rfl
theorem nt270 : Tryz.f270.ntmps = 28 := rfl
theorem rs270 : Tryz.f270.results.toList = [.tmp 8, .tmp 9] := rfl
@[go_sem] theorem cb270 : callable Tryz.prog 270 = true := by kernel_rfl
theorem nt271 : Tryz.f271.ntmps = 19 := rfl
theorem rs271 : Tryz.f271.results.toList = [.tmp 4] := rfl
@[go_sem] theorem cb271 : callable Tryz.prog 271 = true := by kernel_rfl
theorem nt272 : Tryz.f272.ntmps = 6 := rfl
theorem rs272 : Tryz.f272.results.toList = [.tmp 2] := rfl
@[go_sem] theorem cb272 : callable Tryz.prog 272 = true := by kernel_rfl
theorem nt273 : Tryz.f273.ntmps = 18 := rfl
theorem rs273 : Tryz.f273.results.toList = [.tmp 2] := rfl
@[go_sem] theorem cb273 : callable Tryz.prog 273 = true := by kernel_rfl
theorem nt274 : Tryz.f274.ntmps = 19 := rfl
theorem rs274 : Tryz.f274.results.toList = [.tmp 4] := rfl
@[go_sem] theorem cb274 : callable Tryz.prog 274 = true := by kernel_rfl
theorem nt275 : Tryz.f275.ntmps = 31 := rfl
theorem rs275 : Tryz.f275.results.toList = [.tmp 4, .tmp 5] := rfl
@[go_sem] theorem cb275 : callable Tryz.prog 275 = true := by kernel_rfl
theorem nt276 : Tryz.f276.ntmps = 19 := rfl
theorem rs276 : Tryz.f276.results.toList = [.tmp 4] := rfl
@[go_sem] theorem cb276 : callable Tryz.prog 276 = true := by kernel_rfl
theorem nt277 : Tryz.f277.ntmps = 19 := rfl
theorem rs277 : Tryz.f277.results.toList = [.tmp 4, .tmp 5] := rfl
@[go_sem] theorem cb277 : callable Tryz.prog 277 = true := by kernel_rfl
theorem nt278 : Tryz.f278.ntmps = 48 := rfl
theorem rs278 : Tryz.f278.results.toList = [.tmp 6, .tmp 7] := rfl
@[go_sem] theorem cb278 : callable Tryz.prog 278 = true := by kernel_rfl
theorem nt279 : Tryz.f279.ntmps = 35 := rfl
theorem rs279 : Tryz.f279.results.toList = [.tmp 4, .tmp 5] := rfl
@[go_sem] theorem cb279 : callable Tryz.prog 279 = true := by kernel_rfl
theorem nt280 : Tryz.f280.ntmps = 117 := rfl
theorem rs280 : Tryz.f280.results.toList = [.tmp 2, .tmp 3] := rfl
@[go_sem] theorem cb280 : callable Tryz.prog 280 = true := by kernel_rfl
theorem nt281 : Tryz.f281.ntmps = 187 := rfl
theorem rs281 : Tryz.f281.results.toList = [.tmp 4] := rfl
@[go_sem] theorem cb281 : callable Tryz.prog 281 = true := by kernel_rfl
theorem nt282 : Tryz.f282.ntmps = 6 := rfl
theorem rs282 : Tryz.f282.results.toList = [.tmp 2] := rfl
@[go_sem] theorem cb282 : callable Tryz.prog 282 = true := by kernel_rfl
theorem nt283 : Tryz.f283.ntmps = 59 := rfl
theorem rs283 : Tryz.f283.results.toList = [.tmp 4] := rfl
@[go_sem] theorem cb283 : callable Tryz.prog 283 = true := by kernel_rfl
theorem nt284 : Tryz.f284.ntmps = 6 := rfl
theorem rs284 : Tryz.f284.results.toList = [.tmp 2] := rfl
@[go_sem] theorem cb284 : callable Tryz.prog 284 = true := by kernel_rfl
theorem nt285 : Tryz.f285.ntmps = 4 := rfl
theorem rs285 : Tryz.f285.results.toList = [.tmp 2] := rfl
@[go_sem] theorem cb285 : callable Tryz.prog 285 = true := by kernel_rfl
theorem nt286 : Tryz.f286.ntmps = 8 := rfl
theorem rs286 : Tryz.f286.results.toList = [.tmp 2] := rfl
@[go_sem] theorem cb286 : callable Tryz.prog 286 = true := by kernel_rfl
theorem nt287 : Tryz.f287.ntmps = 8 := rfl
theorem rs287 : Tryz.f287.results.toList = [.tmp 2] := rfl
@[go_sem] theorem cb287 : callable Tryz.prog 287 = true := by kernel_rfl
theorem nt288 : Tryz.f288.ntmps = 17 := rfl
theorem rs288 : Tryz.f288.results.toList = [.tmp 4, .tmp 5] := rfl
@[go_sem] theorem cb288 : callable Tryz.prog 288 = true := by kernel_rfl
theorem nt289 : Tryz.f289.ntmps = 18 := rfl
theorem rs289 : Tryz.f289.results.toList = [.tmp 4] := rfl
@[go_sem] theorem cb289 : callable Tryz.prog 289 = true := by kernel_rfl
theorem nt290 : Tryz.f290.ntmps = 8 := rfl
theorem rs290 : Tryz.f290.results.toList = [.tmp 4] := rfl
@[go_sem] theorem cb290 : callable Tryz.prog 290 = true := by kernel_rfl
theorem nt291 : Tryz.f291.ntmps = 17 := rfl
theorem rs291 : Tryz.f291.results.toList = [.tmp 2] := rfl
@[go_sem] theorem cb291 : callable Tryz.prog 291 = true := by kernel_rfl
theorem nt292 : Tryz.f292.ntmps = 6 := rfl
theorem rs292 : Tryz.f292.results.toList = [.tmp 2] := rfl
@[go_sem] theorem cb292 : callable Tryz.prog 292 = true := by kernel_rfl
@[go_sem] theorem cb293 : callable Tryz.prog 293 = false := by kernel_rfl
theorem nt294 : Tryz.f294.ntmps = 114 := rfl
theorem rs294 : Tryz.f294.results.toList = [.tmp 4] := rfl
@[go_sem] theorem cb294 : callable Tryz.prog 294 = true := by kernel_rfl
theorem nt295 : Tryz.f295.ntmps = 99 := rfl
theorem rs295 : Tryz.f295.results.toList = [.tmp 4] := rfl
@[go_sem] theorem cb295 : callable Tryz.prog 295 = true := by kernel_rfl
theorem nt296 : Tryz.f296.ntmps = 14 := rfl
theorem rs296 : Tryz.f296.results.toList = [.tmp 2] := rfl
@[go_sem] theorem cb296 : callable Tryz.prog 296 = true := by kernel_rfl
theorem nt297 : Tryz.f297.ntmps = 14 := rfl
theorem rs297 : Tryz.f297.results.toList = [.tmp 2] := rfl
@[go_sem] theorem cb297 : callable Tryz.prog 297 = true := by kernel_rfl
theorem nt298 : Tryz.f298.ntmps = 8 := rfl
theorem rs298 : Tryz.f298.results.toList = [.tmp 4] := rfl
@[go_sem] theorem cb298 : callable Tryz.prog 298 = true := by kernel_rfl
@[go_sem] theorem cb299 : callable Tryz.prog 299 = false := by kernel_rfl
@[go_sem] theorem cb300 : callable Tryz.prog 300 = false := by kernel_rfl
@[go_sem] theorem cb301 : callable Tryz.prog 301 = false := by kernel_rfl
@[go_sem] theorem cb302 : callable Tryz.prog 302 = false := by kernel_rfl
@[go_sem] theorem cb303 : callable Tryz.prog 303 = false := by kernel_rfl
@[go_sem] theorem cb304 : callable Tryz.prog 304 = false := by kernel_rfl
@[go_sem] theorem cb305 : callable Tryz.prog 305 = false := by kernel_rfl
@[go_sem] theorem cb306 : callable Tryz.prog 306 = false := by kernel_rfl
@[go_sem] theorem cb307 : callable Tryz.prog 307 = false := by kernel_rfl
@[go_sem] theorem cb308 : callable Tryz.prog 308 = false := by kernel_rfl
@[go_sem] theorem cb309 : callable Tryz.prog 309 = false := by kernel_rfl
@[go_sem] theorem cb310 : callable Tryz.prog 310 = false := by kernel_rfl
@[go_sem] theorem cb311 : callable Tryz.prog 311 = false := by kernel_rfl
@[go_sem] theorem cb312 : callable Tryz.prog 312 = false := by kernel_rfl
@[go_sem] theorem cb313 : callable Tryz.prog 313 = false := by kernel_rfl
@[go_sem] theorem cb314 : callable Tryz.prog 314 = false := by kernel_rfl
@[go_sem] theorem cb315 : callable Tryz.prog 315 = false := by kernel_rfl
@[go_sem] theorem cb316 : callable Tryz.prog 316 = false := by kernel_rfl
@[go_sem] theorem cb317 : callable Tryz.prog 317 = false := by kernel_rfl
@[go_sem] theorem cb318 : callable Tryz.prog 318 = false := by kernel_rfl
@[go_sem] theorem cb319 : callable Tryz.prog 319 = false := by kernel_rfl
@[go_sem] theorem cb320 : callable Tryz.prog 320 = false := by kernel_rfl
@[go_sem] theorem cb321 : callable Tryz.prog 321 = false := by kernel_rfl
@[go_sem] theorem cb322 : callable Tryz.prog 322 = false := by kernel_rfl
@[go_sem] theorem cb323 : callable Tryz.prog 323 = false := by kernel_rfl
@[go_sem] theorem cb324 : callable Tryz.prog 324 = false := by kernel_rfl
@[go_sem] theorem cb325 : callable Tryz.prog 325 = false := by kernel_rfl
@[go_sem] theorem cb326 : callable Tryz.prog 326 = false := by kernel_rfl
@[go_sem] theorem cb327 : callable Tryz.prog 327 = false := by kernel_rfl
@[go_sem] theorem cb328 : callable Tryz.prog 328 = false := by kernel_rfl
@[go_sem] theorem cb329 : callable Tryz.prog 329 = false := by kernel_rfl
@[go_sem] theorem cb330 : callable Tryz.prog 330 = false := by kernel_rfl
theorem nt331 : Tryz.f331.ntmps = 21 := rfl
theorem rs331 : Tryz.f331.results.toList = [] := rfl
@[go_sem] theorem cb331 : callable Tryz.prog 331 = true := by kernel_rfl
@[go_sem] theorem gla0 : glA 0 = .fp 256 fun j => .v (spaceL.getD j undef) := by simp [glA, glV, gl, spaceL_length]
theorem mixed : Tryz.prog.follows .mixedOrders = true := by kernel_rfl
end Go.Proofs.YtmalhikcdideoaaGreatDoor
