/- Closed facts on the program: its types, its functions. -/
import Derived.Test.YtmalhikcdideoaaDoorSlV
import Derived.Test.YtmalhikcdideoaaDoorProg
import Derived.KernelRfl
namespace Go.Proofs.YtmalhikcdideoaaDoor
open Go Sl
@[go_sem] theorem ld2 : ldT Tryd.prog 2 = some (1, false) := by kernel_rfl
@[go_sem] theorem und2 : Tryd.prog.underlying 2 = some (.int .i64) := by kernel_rfl
@[go_sem] theorem zr2 : zeroA Tryd.prog 2 = some (1, [.int .i64 0]) := by kernel_rfl
theorem zv2 : zeroV Tryd.prog 2 = some (.v (.int .i64 0)) := by kernel_rfl
@[go_sem] theorem by2 : bytesT Tryd.prog 2 = some 8 := by kernel_rfl
@[go_sem] theorem ld3 : ldT Tryd.prog 3 = some (1, false) := by kernel_rfl
@[go_sem] theorem und3 : Tryd.prog.underlying 3 = some (.int .i64) := by kernel_rfl
@[go_sem] theorem zr3 : zeroA Tryd.prog 3 = some (1, [.int .i64 0]) := by kernel_rfl
theorem zv3 : zeroV Tryd.prog 3 = some (.v (.int .i64 0)) := by kernel_rfl
@[go_sem] theorem by3 : bytesT Tryd.prog 3 = some 8 := by kernel_rfl
@[go_sem] theorem ld4 : ldT Tryd.prog 4 = some (1, false) := by kernel_rfl
@[go_sem] theorem und4 : Tryd.prog.underlying 4 = some (.bool) := by kernel_rfl
@[go_sem] theorem zr4 : zeroA Tryd.prog 4 = some (1, [.bool false]) := by kernel_rfl
theorem zv4 : zeroV Tryd.prog 4 = some (.v (.bool false)) := by kernel_rfl
@[go_sem] theorem by4 : bytesT Tryd.prog 4 = some 1 := by kernel_rfl
@[go_sem] theorem ld5 : ldT Tryd.prog 5 = some (1, false) := by kernel_rfl
@[go_sem] theorem und5 : Tryd.prog.underlying 5 = some (.int .u8) := by kernel_rfl
@[go_sem] theorem zr5 : zeroA Tryd.prog 5 = some (1, [.int .u8 0]) := by kernel_rfl
theorem zv5 : zeroV Tryd.prog 5 = some (.v (.int .u8 0)) := by kernel_rfl
@[go_sem] theorem by5 : bytesT Tryd.prog 5 = some 1 := by kernel_rfl
@[go_sem] theorem ld9 : ldT Tryd.prog 9 = some (1, false) := by kernel_rfl
@[go_sem] theorem elt9 : eltT Tryd.prog 9 = none := by kernel_rfl
@[go_sem] theorem und9 : Tryd.prog.underlying 9 = some (.string) := by kernel_rfl
@[go_sem] theorem zr9 : zeroA Tryd.prog 9 = some (1, [.string ⟨#[]⟩]) := by kernel_rfl
theorem zv9 : zeroV Tryd.prog 9 = some (.v (.string ⟨#[]⟩)) := by kernel_rfl
@[go_sem] theorem by9 : bytesT Tryd.prog 9 = some 16 := by kernel_rfl
@[go_sem] theorem ld21 : ldT Tryd.prog 21 = some (1, false) := by kernel_rfl
@[go_sem] theorem und21 : Tryd.prog.underlying 21 = some (.int .i32) := by kernel_rfl
@[go_sem] theorem zr21 : zeroA Tryd.prog 21 = some (1, [.int .i32 0]) := by kernel_rfl
theorem zv21 : zeroV Tryd.prog 21 = some (.v (.int .i32 0)) := by kernel_rfl
@[go_sem] theorem by21 : bytesT Tryd.prog 21 = some 4 := by kernel_rfl
@[go_sem] theorem ld23 : ldT Tryd.prog 23 = some (1, false) := by kernel_rfl
@[go_sem] theorem elt23 : eltT Tryd.prog 23 = some (3, true) := by kernel_rfl
@[go_sem] theorem und23 : Tryd.prog.underlying 23 = some (.slice 31) := by kernel_rfl
@[go_sem] theorem zr23 : zeroA Tryd.prog 23 = some (1, [.slice none 0 0]) := by kernel_rfl
theorem zv23 : zeroV Tryd.prog 23 = some (.v (.slice none 0 0)) := by kernel_rfl
@[go_sem] theorem by23 : bytesT Tryd.prog 23 = some 24 := by kernel_rfl
@[go_sem] theorem ld24 : ldT Tryd.prog 24 = some (1, false) := by kernel_rfl
@[go_sem] theorem und24 : Tryd.prog.underlying 24 = some (.int .i64) := by kernel_rfl
@[go_sem] theorem zr24 : zeroA Tryd.prog 24 = some (1, [.int .i64 0]) := by kernel_rfl
theorem zv24 : zeroV Tryd.prog 24 = some (.v (.int .i64 0)) := by kernel_rfl
@[go_sem] theorem by24 : bytesT Tryd.prog 24 = some 8 := by kernel_rfl
@[go_sem] theorem ld31 : ldT Tryd.prog 31 = some (3, true) := by kernel_rfl
@[go_sem] theorem zr31 : zeroA Tryd.prog 31 = some (3, [.int .i64 0, .string ⟨#[]⟩, .int .i64 0]) := by kernel_rfl
theorem zv31 : zeroV Tryd.prog 31 = some (aggL [.v (.int .i64 0), .v (.string ⟨#[]⟩), .v (.int .i64 0)]) := by kernel_rfl
@[go_sem] theorem by31 : bytesT Tryd.prog 31 = some 32 := by kernel_rfl
@[go_sem] theorem eq31 : eqT Tryd.prog 31 = some [(0, 0), (1, 1), (2, 0)] := by kernel_rfl
@[go_sem] theorem pl31 : placesT Tryd.prog 31 = some [(0, 1), (1, 1), (2, 1)] := by kernel_rfl
@[go_sem] theorem ld33 : ldT Tryd.prog 33 = some (1, false) := by kernel_rfl
@[go_sem] theorem elt33 : eltT Tryd.prog 33 = some (1, false) := by kernel_rfl
@[go_sem] theorem und33 : Tryd.prog.underlying 33 = some (.slice 9) := by kernel_rfl
@[go_sem] theorem zr33 : zeroA Tryd.prog 33 = some (1, [.slice none 0 0]) := by kernel_rfl
theorem zv33 : zeroV Tryd.prog 33 = some (.v (.slice none 0 0)) := by kernel_rfl
@[go_sem] theorem by33 : bytesT Tryd.prog 33 = some 24 := by kernel_rfl
@[go_sem] theorem ld37 : ldT Tryd.prog 37 = some (1, false) := by kernel_rfl
@[go_sem] theorem elt37 : eltT Tryd.prog 37 = some (1, false) := by kernel_rfl
@[go_sem] theorem und37 : Tryd.prog.underlying 37 = some (.slice 3) := by kernel_rfl
@[go_sem] theorem zr37 : zeroA Tryd.prog 37 = some (1, [.slice none 0 0]) := by kernel_rfl
theorem zv37 : zeroV Tryd.prog 37 = some (.v (.slice none 0 0)) := by kernel_rfl
@[go_sem] theorem by37 : bytesT Tryd.prog 37 = some 24 := by kernel_rfl
@[go_sem] theorem ld39 : ldT Tryd.prog 39 = some (5, true) := by kernel_rfl
@[go_sem] theorem zr39 : zeroA Tryd.prog 39 = some (5, [.int .i64 0, .slice none 0 0, .int .i64 0, .int .i64 0, .string ⟨#[]⟩]) := by kernel_rfl
theorem zv39 : zeroV Tryd.prog 39 = some (aggL [.v (.int .i64 0), .v (.slice none 0 0), .v (.int .i64 0), .v (.int .i64 0), .v (.string ⟨#[]⟩)]) := by kernel_rfl
@[go_sem] theorem by39 : bytesT Tryd.prog 39 = some 64 := by kernel_rfl
@[go_sem] theorem pl39 : placesT Tryd.prog 39 = some [(0, 1), (1, 1), (2, 1), (3, 1), (4, 1)] := by kernel_rfl
@[go_sem] theorem ld40 : ldT Tryd.prog 40 = some (1, false) := by kernel_rfl
@[go_sem] theorem elt40 : eltT Tryd.prog 40 = some (1, false) := by kernel_rfl
@[go_sem] theorem und40 : Tryd.prog.underlying 40 = some (.slice 42) := by kernel_rfl
@[go_sem] theorem zr40 : zeroA Tryd.prog 40 = some (1, [.slice none 0 0]) := by kernel_rfl
theorem zv40 : zeroV Tryd.prog 40 = some (.v (.slice none 0 0)) := by kernel_rfl
@[go_sem] theorem by40 : bytesT Tryd.prog 40 = some 24 := by kernel_rfl
@[go_sem] theorem ld42 : ldT Tryd.prog 42 = some (1, false) := by kernel_rfl
@[go_sem] theorem elt42 : eltT Tryd.prog 42 = some (5, true) := by kernel_rfl
@[go_sem] theorem und42 : Tryd.prog.underlying 42 = some (.slice 39) := by kernel_rfl
@[go_sem] theorem zr42 : zeroA Tryd.prog 42 = some (1, [.slice none 0 0]) := by kernel_rfl
theorem zv42 : zeroV Tryd.prog 42 = some (.v (.slice none 0 0)) := by kernel_rfl
@[go_sem] theorem by42 : bytesT Tryd.prog 42 = some 24 := by kernel_rfl
@[go_sem] theorem ld43 : ldT Tryd.prog 43 = some (1, false) := by kernel_rfl
@[go_sem] theorem elt43 : eltT Tryd.prog 43 = some (6, true) := by kernel_rfl
@[go_sem] theorem und43 : Tryd.prog.underlying 43 = some (.slice 45) := by kernel_rfl
@[go_sem] theorem zr43 : zeroA Tryd.prog 43 = some (1, [.slice none 0 0]) := by kernel_rfl
theorem zv43 : zeroV Tryd.prog 43 = some (.v (.slice none 0 0)) := by kernel_rfl
@[go_sem] theorem by43 : bytesT Tryd.prog 43 = some 24 := by kernel_rfl
@[go_sem] theorem ld45 : ldT Tryd.prog 45 = some (6, true) := by kernel_rfl
@[go_sem] theorem zr45 : zeroA Tryd.prog 45 = some (6, [.int .i64 0, .slice none 0 0, .int .i64 0, .int .i64 0, .string ⟨#[]⟩, .slice none 0 0]) := by kernel_rfl
theorem zv45 : zeroV Tryd.prog 45 = some (aggL [.v (.int .i64 0), .v (.slice none 0 0), .v (.int .i64 0), .v (.int .i64 0), .v (.string ⟨#[]⟩), .v (.slice none 0 0)]) := by kernel_rfl
@[go_sem] theorem by45 : bytesT Tryd.prog 45 = some 88 := by kernel_rfl
@[go_sem] theorem pl45 : placesT Tryd.prog 45 = some [(0, 5), (5, 1)] := by kernel_rfl
@[go_sem] theorem ld59 : ldT Tryd.prog 59 = some (1, false) := by kernel_rfl
@[go_sem] theorem elt59 : eltT Tryd.prog 59 = some (6, true) := by kernel_rfl
@[go_sem] theorem und59 : Tryd.prog.underlying 59 = some (.slice 65) := by kernel_rfl
@[go_sem] theorem zr59 : zeroA Tryd.prog 59 = some (1, [.slice none 0 0]) := by kernel_rfl
theorem zv59 : zeroV Tryd.prog 59 = some (.v (.slice none 0 0)) := by kernel_rfl
@[go_sem] theorem by59 : bytesT Tryd.prog 59 = some 24 := by kernel_rfl
@[go_sem] theorem ld60 : ldT Tryd.prog 60 = some (1, false) := by kernel_rfl
@[go_sem] theorem elt60 : eltT Tryd.prog 60 = some (5, true) := by kernel_rfl
@[go_sem] theorem und60 : Tryd.prog.underlying 60 = some (.slice 68) := by kernel_rfl
@[go_sem] theorem zr60 : zeroA Tryd.prog 60 = some (1, [.slice none 0 0]) := by kernel_rfl
theorem zv60 : zeroV Tryd.prog 60 = some (.v (.slice none 0 0)) := by kernel_rfl
@[go_sem] theorem by60 : bytesT Tryd.prog 60 = some 24 := by kernel_rfl
@[go_sem] theorem ld62 : ldT Tryd.prog 62 = some (1, false) := by kernel_rfl
@[go_sem] theorem elt62 : eltT Tryd.prog 62 = some (7, true) := by kernel_rfl
@[go_sem] theorem und62 : Tryd.prog.underlying 62 = some (.slice 125) := by kernel_rfl
@[go_sem] theorem zr62 : zeroA Tryd.prog 62 = some (1, [.slice none 0 0]) := by kernel_rfl
theorem zv62 : zeroV Tryd.prog 62 = some (.v (.slice none 0 0)) := by kernel_rfl
@[go_sem] theorem by62 : bytesT Tryd.prog 62 = some 24 := by kernel_rfl
@[go_sem] theorem ld65 : ldT Tryd.prog 65 = some (6, true) := by kernel_rfl
@[go_sem] theorem zr65 : zeroA Tryd.prog 65 = some (6, [.string ⟨#[]⟩, .int .i64 0, .int .i64 0, .slice none 0 0, .slice none 0 0, .slice none 0 0]) := by kernel_rfl
theorem zv65 : zeroV Tryd.prog 65 = some (aggL [.v (.string ⟨#[]⟩), .v (.int .i64 0), .v (.int .i64 0), .v (.slice none 0 0), .v (.slice none 0 0), .v (.slice none 0 0)]) := by kernel_rfl
@[go_sem] theorem by65 : bytesT Tryd.prog 65 = some 104 := by kernel_rfl
@[go_sem] theorem pl65 : placesT Tryd.prog 65 = some [(0, 1), (1, 1), (2, 1), (3, 1), (4, 1), (5, 1)] := by kernel_rfl
@[go_sem] theorem ld66 : ldT Tryd.prog 66 = some (1, false) := by kernel_rfl
@[go_sem] theorem elt66 : eltT Tryd.prog 66 = some (2, true) := by kernel_rfl
@[go_sem] theorem und66 : Tryd.prog.underlying 66 = some (.slice 114) := by kernel_rfl
@[go_sem] theorem zr66 : zeroA Tryd.prog 66 = some (1, [.slice none 0 0]) := by kernel_rfl
theorem zv66 : zeroV Tryd.prog 66 = some (.v (.slice none 0 0)) := by kernel_rfl
@[go_sem] theorem by66 : bytesT Tryd.prog 66 = some 24 := by kernel_rfl
@[go_sem] theorem ld68 : ldT Tryd.prog 68 = some (5, true) := by kernel_rfl
@[go_sem] theorem zr68 : zeroA Tryd.prog 68 = some (5, [.string ⟨#[]⟩, .int .i64 0, .int .i64 0, .bool false, .slice none 0 0]) := by kernel_rfl
theorem zv68 : zeroV Tryd.prog 68 = some (aggL [.v (.string ⟨#[]⟩), .v (.int .i64 0), .v (.int .i64 0), .v (.bool false), .v (.slice none 0 0)]) := by kernel_rfl
@[go_sem] theorem by68 : bytesT Tryd.prog 68 = some 64 := by kernel_rfl
@[go_sem] theorem pl68 : placesT Tryd.prog 68 = some [(0, 1), (1, 1), (2, 1), (3, 1), (4, 1)] := by kernel_rfl
@[go_sem] theorem ld85 : ldT Tryd.prog 85 = some (256, true) := by kernel_rfl
@[go_sem] theorem elt85 : eltT Tryd.prog 85 = none := by kernel_rfl
@[go_sem] theorem arr85 : arrT Tryd.prog 85 = some (256, 1, false) := by kernel_rfl
@[go_sem] theorem und85 : Tryd.prog.underlying 85 = some (.array 256 5) := by kernel_rfl
@[go_sem] theorem zr85 : zeroA Tryd.prog 85 = some (256, rep 256 (.int .u8 0)) := by kernel_rfl
@[go_sem] theorem by85 : bytesT Tryd.prog 85 = some 256 := by kernel_rfl
@[go_sem] theorem ld87 : ldT Tryd.prog 87 = some (1, false) := by kernel_rfl
@[go_sem] theorem zr87 : zeroA Tryd.prog 87 = some (1, [.nilFunc]) := by kernel_rfl
theorem zv87 : zeroV Tryd.prog 87 = some (.v (.nilFunc)) := by kernel_rfl
@[go_sem] theorem by87 : bytesT Tryd.prog 87 = some 8 := by kernel_rfl
@[go_sem] theorem ld88 : ldT Tryd.prog 88 = some (1, false) := by kernel_rfl
@[go_sem] theorem zr88 : zeroA Tryd.prog 88 = some (1, [.nilFunc]) := by kernel_rfl
theorem zv88 : zeroV Tryd.prog 88 = some (.v (.nilFunc)) := by kernel_rfl
@[go_sem] theorem by88 : bytesT Tryd.prog 88 = some 8 := by kernel_rfl
@[go_sem] theorem ld93 : ldT Tryd.prog 93 = some (1, false) := by kernel_rfl
@[go_sem] theorem und93 : Tryd.prog.underlying 93 = some (.map 3 4) := by kernel_rfl
@[go_sem] theorem zr93 : zeroA Tryd.prog 93 = some (1, [.map none]) := by kernel_rfl
theorem zv93 : zeroV Tryd.prog 93 = some (.v (.map none)) := by kernel_rfl
theorem kt93 : keyT Tryd.prog 3 = 1 := by kernel_rfl
@[go_sem] theorem by93 : bytesT Tryd.prog 93 = some 8 := by kernel_rfl
@[go_sem] theorem ld96 : ldT Tryd.prog 96 = some (1, false) := by kernel_rfl
@[go_sem] theorem und96 : Tryd.prog.underlying 96 = some (.pointer 99) := by kernel_rfl
@[go_sem] theorem zr96 : zeroA Tryd.prog 96 = some (1, [.pointer none]) := by kernel_rfl
theorem zv96 : zeroV Tryd.prog 96 = some (.v (.pointer none)) := by kernel_rfl
@[go_sem] theorem by96 : bytesT Tryd.prog 96 = some 8 := by kernel_rfl
@[go_sem] theorem ld97 : ldT Tryd.prog 97 = some (1, false) := by kernel_rfl
@[go_sem] theorem elt97 : eltT Tryd.prog 97 = some (1, false) := by kernel_rfl
@[go_sem] theorem und97 : Tryd.prog.underlying 97 = some (.slice 5) := by kernel_rfl
@[go_sem] theorem zr97 : zeroA Tryd.prog 97 = some (1, [.slice none 0 0]) := by kernel_rfl
theorem zv97 : zeroV Tryd.prog 97 = some (.v (.slice none 0 0)) := by kernel_rfl
@[go_sem] theorem by97 : bytesT Tryd.prog 97 = some 24 := by kernel_rfl
@[go_sem] theorem ld99 : ldT Tryd.prog 99 = some (2, true) := by kernel_rfl
@[go_sem] theorem zr99 : zeroA Tryd.prog 99 = some (2, [.pointer none, .slice none 0 0]) := by kernel_rfl
theorem zv99 : zeroV Tryd.prog 99 = some (aggL [.v (.pointer none), .v (.slice none 0 0)]) := by kernel_rfl
@[go_sem] theorem by99 : bytesT Tryd.prog 99 = some 32 := by kernel_rfl
@[go_sem] theorem pl99 : placesT Tryd.prog 99 = some [(0, 1), (1, 1)] := by kernel_rfl
@[go_sem] theorem ld110 : ldT Tryd.prog 110 = some (1, false) := by kernel_rfl
@[go_sem] theorem zr110 : zeroA Tryd.prog 110 = some (1, [.nilFunc]) := by kernel_rfl
theorem zv110 : zeroV Tryd.prog 110 = some (.v (.nilFunc)) := by kernel_rfl
@[go_sem] theorem by110 : bytesT Tryd.prog 110 = some 8 := by kernel_rfl
@[go_sem] theorem ld114 : ldT Tryd.prog 114 = some (2, true) := by kernel_rfl
@[go_sem] theorem zr114 : zeroA Tryd.prog 114 = some (2, [.int .i64 0, .int .i64 0]) := by kernel_rfl
theorem zv114 : zeroV Tryd.prog 114 = some (aggL [.v (.int .i64 0), .v (.int .i64 0)]) := by kernel_rfl
@[go_sem] theorem by114 : bytesT Tryd.prog 114 = some 16 := by kernel_rfl
@[go_sem] theorem pl114 : placesT Tryd.prog 114 = some [(0, 1), (1, 1)] := by kernel_rfl
@[go_sem] theorem ld118 : ldT Tryd.prog 118 = some (1, false) := by kernel_rfl
@[go_sem] theorem zr118 : zeroA Tryd.prog 118 = some (1, [.nilFunc]) := by kernel_rfl
theorem zv118 : zeroV Tryd.prog 118 = some (.v (.nilFunc)) := by kernel_rfl
@[go_sem] theorem by118 : bytesT Tryd.prog 118 = some 8 := by kernel_rfl
@[go_sem] theorem ld120 : ldT Tryd.prog 120 = some (1, false) := by kernel_rfl
@[go_sem] theorem und120 : Tryd.prog.underlying 120 = some (.map 9 3) := by kernel_rfl
@[go_sem] theorem zr120 : zeroA Tryd.prog 120 = some (1, [.map none]) := by kernel_rfl
theorem zv120 : zeroV Tryd.prog 120 = some (.v (.map none)) := by kernel_rfl
theorem kt120 : keyT Tryd.prog 9 = 2 := by kernel_rfl
@[go_sem] theorem by120 : bytesT Tryd.prog 120 = some 8 := by kernel_rfl
@[go_sem] theorem ld121 : ldT Tryd.prog 121 = some (1, false) := by kernel_rfl
@[go_sem] theorem und121 : Tryd.prog.underlying 121 = some (.map 9 68) := by kernel_rfl
@[go_sem] theorem zr121 : zeroA Tryd.prog 121 = some (1, [.map none]) := by kernel_rfl
theorem zv121 : zeroV Tryd.prog 121 = some (.v (.map none)) := by kernel_rfl
theorem kt121 : keyT Tryd.prog 9 = 2 := by kernel_rfl
@[go_sem] theorem by121 : bytesT Tryd.prog 121 = some 8 := by kernel_rfl
@[go_sem] theorem ld123 : ldT Tryd.prog 123 = some (2, true) := by kernel_rfl
@[go_sem] theorem zr123 : zeroA Tryd.prog 123 = some (2, [.int .i64 0, .int .i64 0]) := by kernel_rfl
theorem zv123 : zeroV Tryd.prog 123 = some (aggL [.v (.int .i64 0), .v (.int .i64 0)]) := by kernel_rfl
@[go_sem] theorem by123 : bytesT Tryd.prog 123 = some 16 := by kernel_rfl
@[go_sem] theorem pl123 : placesT Tryd.prog 123 = some [(0, 1), (1, 1)] := by kernel_rfl
@[go_sem] theorem ld125 : ldT Tryd.prog 125 = some (7, true) := by kernel_rfl
@[go_sem] theorem zr125 : zeroA Tryd.prog 125 = some (7, [.string ⟨#[]⟩, .int .i64 0, .bool false, .int .i64 0, .int .i64 0, .int .i64 0, .int .i64 0]) := by kernel_rfl
theorem zv125 : zeroV Tryd.prog 125 = some (aggL [.v (.string ⟨#[]⟩), .v (.int .i64 0), .v (.bool false), .v (.int .i64 0), .v (.int .i64 0), .v (.int .i64 0), .v (.int .i64 0)]) := by kernel_rfl
@[go_sem] theorem by125 : bytesT Tryd.prog 125 = some 64 := by kernel_rfl
@[go_sem] theorem pl125 : placesT Tryd.prog 125 = some [(0, 1), (1, 1), (2, 1), (3, 1), (4, 1), (5, 2)] := by kernel_rfl
@[go_sem] theorem ld130 : ldT Tryd.prog 130 = some (1, false) := by kernel_rfl
@[go_sem] theorem und130 : Tryd.prog.underlying 130 = some (.map 9 4) := by kernel_rfl
@[go_sem] theorem zr130 : zeroA Tryd.prog 130 = some (1, [.map none]) := by kernel_rfl
theorem zv130 : zeroV Tryd.prog 130 = some (.v (.map none)) := by kernel_rfl
theorem kt130 : keyT Tryd.prog 9 = 2 := by kernel_rfl
@[go_sem] theorem by130 : bytesT Tryd.prog 130 = some 8 := by kernel_rfl
@[go_sem] theorem ld133 : ldT Tryd.prog 133 = some (1, false) := by kernel_rfl
@[go_sem] theorem elt133 : eltT Tryd.prog 133 = some (2, true) := by kernel_rfl
@[go_sem] theorem und133 : Tryd.prog.underlying 133 = some (.slice 135) := by kernel_rfl
@[go_sem] theorem zr133 : zeroA Tryd.prog 133 = some (1, [.slice none 0 0]) := by kernel_rfl
theorem zv133 : zeroV Tryd.prog 133 = some (.v (.slice none 0 0)) := by kernel_rfl
@[go_sem] theorem by133 : bytesT Tryd.prog 133 = some 24 := by kernel_rfl
@[go_sem] theorem ld135 : ldT Tryd.prog 135 = some (2, true) := by kernel_rfl
@[go_sem] theorem zr135 : zeroA Tryd.prog 135 = some (2, [.int .i64 0, .int .i64 0]) := by kernel_rfl
theorem zv135 : zeroV Tryd.prog 135 = some (aggL [.v (.int .i64 0), .v (.int .i64 0)]) := by kernel_rfl
@[go_sem] theorem by135 : bytesT Tryd.prog 135 = some 16 := by kernel_rfl
@[go_sem] theorem pl135 : placesT Tryd.prog 135 = some [(0, 1), (1, 1)] := by kernel_rfl
@[go_sem] theorem ld136 : ldT Tryd.prog 136 = some (1, false) := by kernel_rfl
@[go_sem] theorem und136 : Tryd.prog.underlying 136 = some (.int .u32) := by kernel_rfl
@[go_sem] theorem zr136 : zeroA Tryd.prog 136 = some (1, [.int .u32 0]) := by kernel_rfl
theorem zv136 : zeroV Tryd.prog 136 = some (.v (.int .u32 0)) := by kernel_rfl
@[go_sem] theorem by136 : bytesT Tryd.prog 136 = some 4 := by kernel_rfl
@[go_sem] theorem ld138 : ldT Tryd.prog 138 = some (1, false) := by kernel_rfl
@[go_sem] theorem und138 : Tryd.prog.underlying 138 = some (.pointer 163) := by kernel_rfl
@[go_sem] theorem zr138 : zeroA Tryd.prog 138 = some (1, [.pointer none]) := by kernel_rfl
theorem zv138 : zeroV Tryd.prog 138 = some (.v (.pointer none)) := by kernel_rfl
@[go_sem] theorem by138 : bytesT Tryd.prog 138 = some 8 := by kernel_rfl
@[go_sem] theorem ld139 : ldT Tryd.prog 139 = some (1, false) := by kernel_rfl
@[go_sem] theorem und139 : Tryd.prog.underlying 139 = some (.int .u64) := by kernel_rfl
@[go_sem] theorem zr139 : zeroA Tryd.prog 139 = some (1, [.int .u64 0]) := by kernel_rfl
theorem zv139 : zeroV Tryd.prog 139 = some (.v (.int .u64 0)) := by kernel_rfl
@[go_sem] theorem by139 : bytesT Tryd.prog 139 = some 8 := by kernel_rfl
@[go_sem] theorem ld143 : ldT Tryd.prog 143 = some (256, true) := by kernel_rfl
@[go_sem] theorem elt143 : eltT Tryd.prog 143 = none := by kernel_rfl
@[go_sem] theorem arr143 : arrT Tryd.prog 143 = some (256, 1, false) := by kernel_rfl
@[go_sem] theorem und143 : Tryd.prog.underlying 143 = some (.array 256 4) := by kernel_rfl
@[go_sem] theorem zr143 : zeroA Tryd.prog 143 = some (256, rep 256 (.bool false)) := by kernel_rfl
@[go_sem] theorem by143 : bytesT Tryd.prog 143 = some 256 := by kernel_rfl
@[go_sem] theorem ld147 : ldT Tryd.prog 147 = some (1, false) := by kernel_rfl
@[go_sem] theorem und147 : Tryd.prog.underlying 147 = some (.pointer 143) := by kernel_rfl
@[go_sem] theorem zr147 : zeroA Tryd.prog 147 = some (1, [.pointer none]) := by kernel_rfl
theorem zv147 : zeroV Tryd.prog 147 = some (.v (.pointer none)) := by kernel_rfl
@[go_sem] theorem by147 : bytesT Tryd.prog 147 = some 8 := by kernel_rfl
@[go_sem] theorem ld151 : ldT Tryd.prog 151 = some (1, false) := by kernel_rfl
@[go_sem] theorem und151 : Tryd.prog.underlying 151 = some (.pointer 5) := by kernel_rfl
@[go_sem] theorem zr151 : zeroA Tryd.prog 151 = some (1, [.pointer none]) := by kernel_rfl
theorem zv151 : zeroV Tryd.prog 151 = some (.v (.pointer none)) := by kernel_rfl
@[go_sem] theorem by151 : bytesT Tryd.prog 151 = some 8 := by kernel_rfl
@[go_sem] theorem ld160 : ldT Tryd.prog 160 = some (1, false) := by kernel_rfl
@[go_sem] theorem elt160 : eltT Tryd.prog 160 = some (3, true) := by kernel_rfl
@[go_sem] theorem und160 : Tryd.prog.underlying 160 = some (.slice 166) := by kernel_rfl
@[go_sem] theorem zr160 : zeroA Tryd.prog 160 = some (1, [.slice none 0 0]) := by kernel_rfl
theorem zv160 : zeroV Tryd.prog 160 = some (.v (.slice none 0 0)) := by kernel_rfl
@[go_sem] theorem by160 : bytesT Tryd.prog 160 = some 24 := by kernel_rfl
@[go_sem] theorem ld161 : ldT Tryd.prog 161 = some (1, false) := by kernel_rfl
@[go_sem] theorem elt161 : eltT Tryd.prog 161 = some (3, true) := by kernel_rfl
@[go_sem] theorem und161 : Tryd.prog.underlying 161 = some (.slice 169) := by kernel_rfl
@[go_sem] theorem zr161 : zeroA Tryd.prog 161 = some (1, [.slice none 0 0]) := by kernel_rfl
theorem zv161 : zeroV Tryd.prog 161 = some (.v (.slice none 0 0)) := by kernel_rfl
@[go_sem] theorem by161 : bytesT Tryd.prog 161 = some 24 := by kernel_rfl
@[go_sem] theorem ld163 : ldT Tryd.prog 163 = some (3, true) := by kernel_rfl
@[go_sem] theorem zr163 : zeroA Tryd.prog 163 = some (3, [.slice none 0 0, .slice none 0 0, .int .i64 0]) := by kernel_rfl
theorem zv163 : zeroV Tryd.prog 163 = some (aggL [.v (.slice none 0 0), .v (.slice none 0 0), .v (.int .i64 0)]) := by kernel_rfl
@[go_sem] theorem by163 : bytesT Tryd.prog 163 = some 56 := by kernel_rfl
@[go_sem] theorem pl163 : placesT Tryd.prog 163 = some [(0, 1), (1, 1), (2, 1)] := by kernel_rfl
@[go_sem] theorem ld164 : ldT Tryd.prog 164 = some (1, false) := by kernel_rfl
@[go_sem] theorem und164 : Tryd.prog.underlying 164 = some (.int .u16) := by kernel_rfl
@[go_sem] theorem zr164 : zeroA Tryd.prog 164 = some (1, [.int .u16 0]) := by kernel_rfl
theorem zv164 : zeroV Tryd.prog 164 = some (.v (.int .u16 0)) := by kernel_rfl
@[go_sem] theorem by164 : bytesT Tryd.prog 164 = some 2 := by kernel_rfl
@[go_sem] theorem ld166 : ldT Tryd.prog 166 = some (3, true) := by kernel_rfl
@[go_sem] theorem zr166 : zeroA Tryd.prog 166 = some (3, [.int .u16 0, .int .u16 0, .int .u16 0]) := by kernel_rfl
theorem zv166 : zeroV Tryd.prog 166 = some (aggL [.v (.int .u16 0), .v (.int .u16 0), .v (.int .u16 0)]) := by kernel_rfl
@[go_sem] theorem by166 : bytesT Tryd.prog 166 = some 6 := by kernel_rfl
@[go_sem] theorem pl166 : placesT Tryd.prog 166 = some [(0, 1), (1, 1), (2, 1)] := by kernel_rfl
@[go_sem] theorem ld169 : ldT Tryd.prog 169 = some (3, true) := by kernel_rfl
@[go_sem] theorem zr169 : zeroA Tryd.prog 169 = some (3, [.int .u32 0, .int .u32 0, .int .u32 0]) := by kernel_rfl
theorem zv169 : zeroV Tryd.prog 169 = some (aggL [.v (.int .u32 0), .v (.int .u32 0), .v (.int .u32 0)]) := by kernel_rfl
@[go_sem] theorem by169 : bytesT Tryd.prog 169 = some 12 := by kernel_rfl
@[go_sem] theorem pl169 : placesT Tryd.prog 169 = some [(0, 1), (1, 1), (2, 1)] := by kernel_rfl
@[go_sem] theorem ld176 : ldT Tryd.prog 176 = some (1, false) := by kernel_rfl
@[go_sem] theorem zr176 : zeroA Tryd.prog 176 = some (1, [.pointer none]) := by kernel_rfl
theorem zv176 : zeroV Tryd.prog 176 = some (.v (.pointer none)) := by kernel_rfl
@[go_sem] theorem by176 : bytesT Tryd.prog 176 = some 8 := by kernel_rfl
@[go_sem] theorem ld180 : ldT Tryd.prog 180 = some (1, false) := by kernel_rfl
@[go_sem] theorem und180 : Tryd.prog.underlying 180 = some (.int .i64) := by kernel_rfl
@[go_sem] theorem zr180 : zeroA Tryd.prog 180 = some (1, [.int .i64 0]) := by kernel_rfl
theorem zv180 : zeroV Tryd.prog 180 = some (.v (.int .i64 0)) := by kernel_rfl
@[go_sem] theorem by180 : bytesT Tryd.prog 180 = some 8 := by kernel_rfl
@[go_sem] theorem ld188 : ldT Tryd.prog 188 = some (1, false) := by kernel_rfl
@[go_sem] theorem und188 : Tryd.prog.underlying 188 = some (.int .u64) := by kernel_rfl
@[go_sem] theorem zr188 : zeroA Tryd.prog 188 = some (1, [.int .u64 0]) := by kernel_rfl
theorem zv188 : zeroV Tryd.prog 188 = some (.v (.int .u64 0)) := by kernel_rfl
@[go_sem] theorem by188 : bytesT Tryd.prog 188 = some 8 := by kernel_rfl
@[go_sem] theorem ld193 : ldT Tryd.prog 193 = some (1, false) := by kernel_rfl
@[go_sem] theorem und193 : Tryd.prog.underlying 193 = some (.int .u64) := by kernel_rfl
@[go_sem] theorem zr193 : zeroA Tryd.prog 193 = some (1, [.int .u64 0]) := by kernel_rfl
theorem zv193 : zeroV Tryd.prog 193 = some (.v (.int .u64 0)) := by kernel_rfl
@[go_sem] theorem by193 : bytesT Tryd.prog 193 = some 8 := by kernel_rfl
@[go_sem] theorem ld197 : ldT Tryd.prog 197 = some (1, false) := by kernel_rfl
@[go_sem] theorem und197 : Tryd.prog.underlying 197 = some (.pointer 3) := by kernel_rfl
@[go_sem] theorem zr197 : zeroA Tryd.prog 197 = some (1, [.pointer none]) := by kernel_rfl
theorem zv197 : zeroV Tryd.prog 197 = some (.v (.pointer none)) := by kernel_rfl
@[go_sem] theorem by197 : bytesT Tryd.prog 197 = some 8 := by kernel_rfl
@[go_sem] theorem ld200 : ldT Tryd.prog 200 = some (2, true) := by kernel_rfl
@[go_sem] theorem zr200 : zeroA Tryd.prog 200 = some (2, [.int .u8 0, .int .u8 0]) := by kernel_rfl
theorem zv200 : zeroV Tryd.prog 200 = some (aggL [.v (.int .u8 0), .v (.int .u8 0)]) := by kernel_rfl
@[go_sem] theorem by200 : bytesT Tryd.prog 200 = some 2 := by kernel_rfl
@[go_sem] theorem pl200 : placesT Tryd.prog 200 = some [(0, 1), (1, 1)] := by kernel_rfl
@[go_sem] theorem ld201 : ldT Tryd.prog 201 = some (32, true) := by kernel_rfl
@[go_sem] theorem elt201 : eltT Tryd.prog 201 = none := by kernel_rfl
@[go_sem] theorem arr201 : arrT Tryd.prog 201 = some (16, 2, true) := by kernel_rfl
@[go_sem] theorem und201 : Tryd.prog.underlying 201 = some (.array 16 200) := by kernel_rfl
@[go_sem] theorem zr201 : zeroA Tryd.prog 201 = some (32, [.int .u8 0, .int .u8 0, .int .u8 0, .int .u8 0, .int .u8 0, .int .u8 0, .int .u8 0, .int .u8 0, .int .u8 0, .int .u8 0, .int .u8 0, .int .u8 0, .int .u8 0, .int .u8 0, .int .u8 0, .int .u8 0, .int .u8 0, .int .u8 0, .int .u8 0, .int .u8 0, .int .u8 0, .int .u8 0, .int .u8 0, .int .u8 0, .int .u8 0, .int .u8 0, .int .u8 0, .int .u8 0, .int .u8 0, .int .u8 0, .int .u8 0, .int .u8 0]) := by kernel_rfl
theorem zv201 : zeroV Tryd.prog 201 = some (aggL [.v (.int .u8 0), .v (.int .u8 0), .v (.int .u8 0), .v (.int .u8 0), .v (.int .u8 0), .v (.int .u8 0), .v (.int .u8 0), .v (.int .u8 0), .v (.int .u8 0), .v (.int .u8 0), .v (.int .u8 0), .v (.int .u8 0), .v (.int .u8 0), .v (.int .u8 0), .v (.int .u8 0), .v (.int .u8 0), .v (.int .u8 0), .v (.int .u8 0), .v (.int .u8 0), .v (.int .u8 0), .v (.int .u8 0), .v (.int .u8 0), .v (.int .u8 0), .v (.int .u8 0), .v (.int .u8 0), .v (.int .u8 0), .v (.int .u8 0), .v (.int .u8 0), .v (.int .u8 0), .v (.int .u8 0), .v (.int .u8 0), .v (.int .u8 0)]) := by kernel_rfl
@[go_sem] theorem by201 : bytesT Tryd.prog 201 = some 32 := by kernel_rfl
@[go_sem] theorem ld203 : ldT Tryd.prog 203 = some (24, true) := by kernel_rfl
@[go_sem] theorem elt203 : eltT Tryd.prog 203 = none := by kernel_rfl
@[go_sem] theorem arr203 : arrT Tryd.prog 203 = some (24, 1, false) := by kernel_rfl
@[go_sem] theorem und203 : Tryd.prog.underlying 203 = some (.array 24 5) := by kernel_rfl
@[go_sem] theorem zr203 : zeroA Tryd.prog 203 = some (24, [.int .u8 0, .int .u8 0, .int .u8 0, .int .u8 0, .int .u8 0, .int .u8 0, .int .u8 0, .int .u8 0, .int .u8 0, .int .u8 0, .int .u8 0, .int .u8 0, .int .u8 0, .int .u8 0, .int .u8 0, .int .u8 0, .int .u8 0, .int .u8 0, .int .u8 0, .int .u8 0, .int .u8 0, .int .u8 0, .int .u8 0, .int .u8 0]) := by kernel_rfl
theorem zv203 : zeroV Tryd.prog 203 = some (aggL [.v (.int .u8 0), .v (.int .u8 0), .v (.int .u8 0), .v (.int .u8 0), .v (.int .u8 0), .v (.int .u8 0), .v (.int .u8 0), .v (.int .u8 0), .v (.int .u8 0), .v (.int .u8 0), .v (.int .u8 0), .v (.int .u8 0), .v (.int .u8 0), .v (.int .u8 0), .v (.int .u8 0), .v (.int .u8 0), .v (.int .u8 0), .v (.int .u8 0), .v (.int .u8 0), .v (.int .u8 0), .v (.int .u8 0), .v (.int .u8 0), .v (.int .u8 0), .v (.int .u8 0)]) := by kernel_rfl
@[go_sem] theorem by203 : bytesT Tryd.prog 203 = some 24 := by kernel_rfl
@[go_sem] theorem ld210 : ldT Tryd.prog 210 = some (20, true) := by kernel_rfl
@[go_sem] theorem elt210 : eltT Tryd.prog 210 = none := by kernel_rfl
@[go_sem] theorem arr210 : arrT Tryd.prog 210 = some (20, 1, false) := by kernel_rfl
@[go_sem] theorem und210 : Tryd.prog.underlying 210 = some (.array 20 188) := by kernel_rfl
@[go_sem] theorem zr210 : zeroA Tryd.prog 210 = some (20, [.int .u64 0, .int .u64 0, .int .u64 0, .int .u64 0, .int .u64 0, .int .u64 0, .int .u64 0, .int .u64 0, .int .u64 0, .int .u64 0, .int .u64 0, .int .u64 0, .int .u64 0, .int .u64 0, .int .u64 0, .int .u64 0, .int .u64 0, .int .u64 0, .int .u64 0, .int .u64 0]) := by kernel_rfl
theorem zv210 : zeroV Tryd.prog 210 = some (aggL [.v (.int .u64 0), .v (.int .u64 0), .v (.int .u64 0), .v (.int .u64 0), .v (.int .u64 0), .v (.int .u64 0), .v (.int .u64 0), .v (.int .u64 0), .v (.int .u64 0), .v (.int .u64 0), .v (.int .u64 0), .v (.int .u64 0), .v (.int .u64 0), .v (.int .u64 0), .v (.int .u64 0), .v (.int .u64 0), .v (.int .u64 0), .v (.int .u64 0), .v (.int .u64 0), .v (.int .u64 0)]) := by kernel_rfl
@[go_sem] theorem by210 : bytesT Tryd.prog 210 = some 160 := by kernel_rfl
@[go_sem] theorem ld211 : ldT Tryd.prog 211 = some (65, true) := by kernel_rfl
@[go_sem] theorem elt211 : eltT Tryd.prog 211 = none := by kernel_rfl
@[go_sem] theorem arr211 : arrT Tryd.prog 211 = some (65, 1, false) := by kernel_rfl
@[go_sem] theorem und211 : Tryd.prog.underlying 211 = some (.array 65 5) := by kernel_rfl
@[go_sem] theorem zr211 : zeroA Tryd.prog 211 = some (65, rep 65 (.int .u8 0)) := by kernel_rfl
@[go_sem] theorem by211 : bytesT Tryd.prog 211 = some 65 := by kernel_rfl
@[go_sem] theorem ld212 : ldT Tryd.prog 212 = some (32, true) := by kernel_rfl
@[go_sem] theorem elt212 : eltT Tryd.prog 212 = none := by kernel_rfl
@[go_sem] theorem arr212 : arrT Tryd.prog 212 = some (32, 1, false) := by kernel_rfl
@[go_sem] theorem und212 : Tryd.prog.underlying 212 = some (.array 32 5) := by kernel_rfl
@[go_sem] theorem zr212 : zeroA Tryd.prog 212 = some (32, [.int .u8 0, .int .u8 0, .int .u8 0, .int .u8 0, .int .u8 0, .int .u8 0, .int .u8 0, .int .u8 0, .int .u8 0, .int .u8 0, .int .u8 0, .int .u8 0, .int .u8 0, .int .u8 0, .int .u8 0, .int .u8 0, .int .u8 0, .int .u8 0, .int .u8 0, .int .u8 0, .int .u8 0, .int .u8 0, .int .u8 0, .int .u8 0, .int .u8 0, .int .u8 0, .int .u8 0, .int .u8 0, .int .u8 0, .int .u8 0, .int .u8 0, .int .u8 0]) := by kernel_rfl
theorem zv212 : zeroV Tryd.prog 212 = some (aggL [.v (.int .u8 0), .v (.int .u8 0), .v (.int .u8 0), .v (.int .u8 0), .v (.int .u8 0), .v (.int .u8 0), .v (.int .u8 0), .v (.int .u8 0), .v (.int .u8 0), .v (.int .u8 0), .v (.int .u8 0), .v (.int .u8 0), .v (.int .u8 0), .v (.int .u8 0), .v (.int .u8 0), .v (.int .u8 0), .v (.int .u8 0), .v (.int .u8 0), .v (.int .u8 0), .v (.int .u8 0), .v (.int .u8 0), .v (.int .u8 0), .v (.int .u8 0), .v (.int .u8 0), .v (.int .u8 0), .v (.int .u8 0), .v (.int .u8 0), .v (.int .u8 0), .v (.int .u8 0), .v (.int .u8 0), .v (.int .u8 0), .v (.int .u8 0)]) := by kernel_rfl
@[go_sem] theorem by212 : bytesT Tryd.prog 212 = some 32 := by kernel_rfl
@[go_sem] theorem ld213 : ldT Tryd.prog 213 = some (64, true) := by kernel_rfl
@[go_sem] theorem elt213 : eltT Tryd.prog 213 = none := by kernel_rfl
@[go_sem] theorem arr213 : arrT Tryd.prog 213 = some (64, 1, false) := by kernel_rfl
@[go_sem] theorem und213 : Tryd.prog.underlying 213 = some (.array 64 5) := by kernel_rfl
@[go_sem] theorem zr213 : zeroA Tryd.prog 213 = some (64, rep 64 (.int .u8 0)) := by kernel_rfl
@[go_sem] theorem by213 : bytesT Tryd.prog 213 = some 64 := by kernel_rfl
@[go_sem] theorem fld31_0 : fldT Tryd.prog 31 0 = some (0, 1, false) := by kernel_rfl
@[go_sem] theorem fld31_1 : fldT Tryd.prog 31 1 = some (1, 1, false) := by kernel_rfl
@[go_sem] theorem fld39_0 : fldT Tryd.prog 39 0 = some (0, 1, false) := by kernel_rfl
@[go_sem] theorem fld39_1 : fldT Tryd.prog 39 1 = some (1, 1, false) := by kernel_rfl
@[go_sem] theorem fld39_2 : fldT Tryd.prog 39 2 = some (2, 1, false) := by kernel_rfl
@[go_sem] theorem fld39_3 : fldT Tryd.prog 39 3 = some (3, 1, false) := by kernel_rfl
@[go_sem] theorem fld39_4 : fldT Tryd.prog 39 4 = some (4, 1, false) := by kernel_rfl
@[go_sem] theorem fld45_0 : fldT Tryd.prog 45 0 = some (0, 5, true) := by kernel_rfl
@[go_sem] theorem fld45_1 : fldT Tryd.prog 45 1 = some (5, 1, false) := by kernel_rfl
@[go_sem] theorem fld65_3 : fldT Tryd.prog 65 3 = some (3, 1, false) := by kernel_rfl
@[go_sem] theorem fld65_4 : fldT Tryd.prog 65 4 = some (4, 1, false) := by kernel_rfl
@[go_sem] theorem fld68_0 : fldT Tryd.prog 68 0 = some (0, 1, false) := by kernel_rfl
@[go_sem] theorem fld68_1 : fldT Tryd.prog 68 1 = some (1, 1, false) := by kernel_rfl
@[go_sem] theorem fld68_2 : fldT Tryd.prog 68 2 = some (2, 1, false) := by kernel_rfl
@[go_sem] theorem fld68_3 : fldT Tryd.prog 68 3 = some (3, 1, false) := by kernel_rfl
@[go_sem] theorem fld68_4 : fldT Tryd.prog 68 4 = some (4, 1, false) := by kernel_rfl
@[go_sem] theorem fld99_0 : fldT Tryd.prog 99 0 = some (0, 1, false) := by kernel_rfl
@[go_sem] theorem fld99_1 : fldT Tryd.prog 99 1 = some (1, 1, false) := by kernel_rfl
@[go_sem] theorem fld114_0 : fldT Tryd.prog 114 0 = some (0, 1, false) := by kernel_rfl
@[go_sem] theorem fld114_1 : fldT Tryd.prog 114 1 = some (1, 1, false) := by kernel_rfl
@[go_sem] theorem fld123_0 : fldT Tryd.prog 123 0 = some (0, 1, false) := by kernel_rfl
@[go_sem] theorem fld123_1 : fldT Tryd.prog 123 1 = some (1, 1, false) := by kernel_rfl
@[go_sem] theorem fld125_0 : fldT Tryd.prog 125 0 = some (0, 1, false) := by kernel_rfl
@[go_sem] theorem fld125_1 : fldT Tryd.prog 125 1 = some (1, 1, false) := by kernel_rfl
@[go_sem] theorem fld135_0 : fldT Tryd.prog 135 0 = some (0, 1, false) := by kernel_rfl
@[go_sem] theorem fld135_1 : fldT Tryd.prog 135 1 = some (1, 1, false) := by kernel_rfl
@[go_sem] theorem fld163_0 : fldT Tryd.prog 163 0 = some (0, 1, false) := by kernel_rfl
@[go_sem] theorem fld163_1 : fldT Tryd.prog 163 1 = some (1, 1, false) := by kernel_rfl
@[go_sem] theorem fld163_2 : fldT Tryd.prog 163 2 = some (2, 1, false) := by kernel_rfl
@[go_sem] theorem fld166_0 : fldT Tryd.prog 166 0 = some (0, 1, false) := by kernel_rfl
@[go_sem] theorem fld166_1 : fldT Tryd.prog 166 1 = some (1, 1, false) := by kernel_rfl
@[go_sem] theorem fld166_2 : fldT Tryd.prog 166 2 = some (2, 1, false) := by kernel_rfl
@[go_sem] theorem fld169_0 : fldT Tryd.prog 169 0 = some (0, 1, false) := by kernel_rfl
@[go_sem] theorem fld169_1 : fldT Tryd.prog 169 1 = some (1, 1, false) := by kernel_rfl
@[go_sem] theorem fld169_2 : fldT Tryd.prog 169 2 = some (2, 1, false) := by kernel_rfl
@[go_sem] theorem fld200_0 : fldT Tryd.prog 200 0 = some (0, 1, false) := by kernel_rfl
@[go_sem] theorem fld200_1 : fldT Tryd.prog 200 1 = some (1, 1, false) := by kernel_rfl
@[go_sem] theorem cb0 : callable Tryd.prog 0 = false := by kernel_rfl
@[go_sem] theorem cb1 : callable Tryd.prog 1 = false := by kernel_rfl
theorem nt2 : Tryd.f2.ntmps = 1 := rfl
theorem rs2 : Tryd.f2.results.toList = [] := rfl
@[go_sem] theorem cb2 : callable Tryd.prog 2 = true := by kernel_rfl
theorem nt3 : Tryd.f3.ntmps = 53 := rfl
theorem rs3 : Tryd.f3.results.toList = [.tmp 2] := rfl
@[go_sem] theorem cb3 : callable Tryd.prog 3 = true := by kernel_rfl
theorem nt4 : Tryd.f4.ntmps = 18 := rfl
theorem rs4 : Tryd.f4.results.toList = [.tmp 2] := rfl
@[go_sem] theorem cb4 : callable Tryd.prog 4 = true := by kernel_rfl
theorem nt5 : Tryd.f5.ntmps = 92 := rfl
theorem rs5 : Tryd.f5.results.toList = [.tmp 10] := rfl
@[go_sem] theorem cb5 : callable Tryd.prog 5 = true := by kernel_rfl
theorem nt6 : Tryd.f6.ntmps = 72 := rfl
theorem rs6 : Tryd.f6.results.toList = [.tmp 6] := rfl
@[go_sem] theorem cb6 : callable Tryd.prog 6 = true := by kernel_rfl
theorem nt7 : Tryd.f7.ntmps = 76 := rfl
theorem rs7 : Tryd.f7.results.toList = [.tmp 4] := rfl
@[go_sem] theorem cb7 : callable Tryd.prog 7 = true := by kernel_rfl
theorem nt8 : Tryd.f8.ntmps = 57 := rfl
theorem rs8 : Tryd.f8.results.toList = [.tmp 4] := rfl
@[go_sem] theorem cb8 : callable Tryd.prog 8 = true := by kernel_rfl
theorem nt9 : Tryd.f9.ntmps = 21 := rfl
theorem rs9 : Tryd.f9.results.toList = [.tmp 0] := rfl
@[go_sem] theorem cb9 : callable Tryd.prog 9 = true := by kernel_rfl
theorem nt10 : Tryd.f10.ntmps = 15 := rfl
theorem rs10 : Tryd.f10.results.toList = [.tmp 2, .tmp 3] := rfl
@[go_sem] theorem cb10 : callable Tryd.prog 10 = true := by kernel_rfl
theorem nt11 : Tryd.f11.ntmps = 60 := rfl
theorem rs11 : Tryd.f11.results.toList = [.tmp 2, .tmp 3, .tmp 4] := rfl
@[go_sem] theorem cb11 : callable Tryd.prog 11 = true := by kernel_rfl
theorem nt12 : Tryd.f12.ntmps = 100 := rfl
theorem rs12 : Tryd.f12.results.toList = [.tmp 2, .tmp 3, .tmp 4] := rfl
@[go_sem] theorem cb12 : callable Tryd.prog 12 = true := by kernel_rfl
theorem nt13 : Tryd.f13.ntmps = 26 := rfl
theorem rs13 : Tryd.f13.results.toList = [.tmp 4] := rfl
@[go_sem] theorem cb13 : callable Tryd.prog 13 = true := by kernel_rfl
theorem nt14 : Tryd.f14.ntmps = 106 := rfl
theorem rs14 : Tryd.f14.results.toList = [.tmp 2] := rfl
@[go_sem] theorem cb14 : callable Tryd.prog 14 = true := by kernel_rfl
theorem nt15 : Tryd.f15.ntmps = 26 := rfl
theorem rs15 : Tryd.f15.results.toList = [.tmp 4] := rfl
@[go_sem] theorem cb15 : callable Tryd.prog 15 = true := by kernel_rfl
theorem nt16 : Tryd.f16.ntmps = 2 := rfl
theorem rs16 : Tryd.f16.results.toList = [.tmp 0] := rfl
@[go_sem] theorem cb16 : callable Tryd.prog 16 = true := by kernel_rfl
theorem nt17 : Tryd.f17.ntmps = 38 := rfl
theorem rs17 : Tryd.f17.results.toList = [.tmp 2] := rfl
@[go_sem] theorem cb17 : callable Tryd.prog 17 = true := by kernel_rfl
theorem nt18 : Tryd.f18.ntmps = 34 := rfl
theorem rs18 : Tryd.f18.results.toList = [.tmp 2] := rfl
@[go_sem] theorem cb18 : callable Tryd.prog 18 = true := by kernel_rfl
theorem nt19 : Tryd.f19.ntmps = 20 := rfl
theorem rs19 : Tryd.f19.results.toList = [.tmp 0] := rfl
@[go_sem] theorem cb19 : callable Tryd.prog 19 = true := by kernel_rfl
theorem nt20 : Tryd.f20.ntmps = 49 := rfl
theorem rs20 : Tryd.f20.results.toList = [.tmp 2] := rfl
@[go_sem] theorem cb20 : callable Tryd.prog 20 = true := by kernel_rfl
theorem nt21 : Tryd.f21.ntmps = 35 := rfl
theorem rs21 : Tryd.f21.results.toList = [.cell 4 45] := rfl
@[go_sem] theorem cb21 : callable Tryd.prog 21 = true := by kernel_rfl
theorem nt22 : Tryd.f22.ntmps = 72 := rfl
theorem rs22 : Tryd.f22.results.toList = [.tmp 4] := rfl
@[go_sem] theorem cb22 : callable Tryd.prog 22 = true := by kernel_rfl
theorem nt23 : Tryd.f23.ntmps = 66 := rfl
theorem rs23 : Tryd.f23.results.toList = [.tmp 2] := rfl
@[go_sem] theorem cb23 : callable Tryd.prog 23 = true := by kernel_rfl
theorem nt24 : Tryd.f24.ntmps = 35 := rfl
theorem rs24 : Tryd.f24.results.toList = [.tmp 2] := rfl
@[go_sem] theorem cb24 : callable Tryd.prog 24 = true := by kernel_rfl
theorem nt25 : Tryd.f25.ntmps = 45 := rfl
theorem rs25 : Tryd.f25.results.toList = [.tmp 6, .tmp 7] := rfl
@[go_sem] theorem cb25 : callable Tryd.prog 25 = true := by kernel_rfl
theorem nt26 : Tryd.f26.ntmps = 50 := rfl
theorem rs26 : Tryd.f26.results.toList = [.tmp 6, .tmp 7] := rfl
@[go_sem] theorem cb26 : callable Tryd.prog 26 = true := by kernel_rfl
theorem nt27 : Tryd.f27.ntmps = 8 := rfl
theorem rs27 : Tryd.f27.results.toList = [.tmp 2] := rfl
@[go_sem] theorem cb27 : callable Tryd.prog 27 = true := by kernel_rfl
theorem nt28 : Tryd.f28.ntmps = 12 := rfl
theorem rs28 : Tryd.f28.results.toList = [.tmp 2] := rfl
@[go_sem] theorem cb28 : callable Tryd.prog 28 = true := by kernel_rfl
theorem nt29 : Tryd.f29.ntmps = 22 := rfl
theorem rs29 : Tryd.f29.results.toList = [.tmp 2] := rfl
@[go_sem] theorem cb29 : callable Tryd.prog 29 = true := by kernel_rfl
theorem nt30 : Tryd.f30.ntmps = 8 := rfl
theorem rs30 : Tryd.f30.results.toList = [.tmp 4] := rfl
@[go_sem] theorem cb30 : callable Tryd.prog 30 = true := by kernel_rfl
theorem nt31 : Tryd.f31.ntmps = 21 := rfl
theorem rs31 : Tryd.f31.results.toList = [.tmp 4] := rfl
@[go_sem] theorem cb31 : callable Tryd.prog 31 = true := by kernel_rfl
theorem nt32 : Tryd.f32.ntmps = 25 := rfl
theorem rs32 : Tryd.f32.results.toList = [.tmp 4] := rfl
@[go_sem] theorem cb32 : callable Tryd.prog 32 = true := by kernel_rfl
theorem nt33 : Tryd.f33.ntmps = 21 := rfl
theorem rs33 : Tryd.f33.results.toList = [.tmp 4] := rfl
@[go_sem] theorem cb33 : callable Tryd.prog 33 = true := by kernel_rfl
theorem nt34 : Tryd.f34.ntmps = 14 := rfl
theorem rs34 : Tryd.f34.results.toList = [.tmp 0] := rfl
@[go_sem] theorem cb34 : callable Tryd.prog 34 = true := by kernel_rfl
theorem nt35 : Tryd.f35.ntmps = 32 := rfl
theorem rs35 : Tryd.f35.results.toList = [.tmp 2] := rfl
@[go_sem] theorem cb35 : callable Tryd.prog 35 = true := by kernel_rfl
theorem nt36 : Tryd.f36.ntmps = 37 := rfl
theorem rs36 : Tryd.f36.results.toList = [.tmp 2] := rfl
@[go_sem] theorem cb36 : callable Tryd.prog 36 = true := by kernel_rfl
theorem nt37 : Tryd.f37.ntmps = 119 := rfl
theorem rs37 : Tryd.f37.results.toList = [.tmp 4, .tmp 5] := rfl
@[go_sem] theorem cb37 : callable Tryd.prog 37 = true := by kernel_rfl
theorem nt38 : Tryd.f38.ntmps = 235 := rfl
theorem rs38 : Tryd.f38.results.toList = [.tmp 4, .tmp 5] := rfl
@[go_sem] theorem cb38 : callable Tryd.prog 38 = true := by kernel_rfl
theorem nt39 : Tryd.f39.ntmps = 21 := rfl
theorem rs39 : Tryd.f39.results.toList = [.tmp 2] := rfl
@[go_sem] theorem cb39 : callable Tryd.prog 39 = true := by kernel_rfl
theorem nt40 : Tryd.f40.ntmps = 13 := rfl
theorem rs40 : Tryd.f40.results.toList = [.tmp 2] := rfl
@[go_sem] theorem cb40 : callable Tryd.prog 40 = true := by kernel_rfl
theorem nt41 : Tryd.f41.ntmps = 57 := rfl
theorem rs41 : Tryd.f41.results.toList = [.tmp 2] := rfl
@[go_sem] theorem cb41 : callable Tryd.prog 41 = true := by kernel_rfl
theorem nt42 : Tryd.f42.ntmps = 41 := rfl
theorem rs42 : Tryd.f42.results.toList = [.tmp 2, .tmp 3] := rfl
@[go_sem] theorem cb42 : callable Tryd.prog 42 = true := by kernel_rfl
theorem nt43 : Tryd.f43.ntmps = 38 := rfl
theorem rs43 : Tryd.f43.results.toList = [.tmp 4] := rfl
@[go_sem] theorem cb43 : callable Tryd.prog 43 = true := by kernel_rfl
theorem nt44 : Tryd.f44.ntmps = 54 := rfl
theorem rs44 : Tryd.f44.results.toList = [.tmp 2] := rfl
@[go_sem] theorem cb44 : callable Tryd.prog 44 = true := by kernel_rfl
theorem nt45 : Tryd.f45.ntmps = 20 := rfl
theorem rs45 : Tryd.f45.results.toList = [.tmp 2] := rfl
@[go_sem] theorem cb45 : callable Tryd.prog 45 = true := by kernel_rfl
theorem nt46 : Tryd.f46.ntmps = 82 := rfl
theorem rs46 : Tryd.f46.results.toList = [.tmp 4, .tmp 5] := rfl
@[go_sem] theorem cb46 : callable Tryd.prog 46 = true := by kernel_rfl
theorem nt47 : Tryd.f47.ntmps = 18 := rfl
theorem rs47 : Tryd.f47.results.toList = [] := rfl
@[go_sem] theorem cb47 : callable Tryd.prog 47 = true := by kernel_rfl
theorem nt48 : Tryd.f48.ntmps = 8 := rfl
theorem rs48 : Tryd.f48.results.toList = [.tmp 4] := rfl
@[go_sem] theorem cb48 : callable Tryd.prog 48 = true := by kernel_rfl
theorem nt49 : Tryd.f49.ntmps = 9 := rfl
theorem rs49 : Tryd.f49.results.toList = [.tmp 4] := rfl
@[go_sem] theorem cb49 : callable Tryd.prog 49 = true := by kernel_rfl
theorem nt50 : Tryd.f50.ntmps = 2 := rfl
theorem rs50 : Tryd.f50.results.toList = [.tmp 0] := rfl
@[go_sem] theorem cb50 : callable Tryd.prog 50 = true := by kernel_rfl
theorem nt51 : Tryd.f51.ntmps = 65 := rfl
theorem rs51 : Tryd.f51.results.toList = [.tmp 4] := rfl
@[go_sem] theorem cb51 : callable Tryd.prog 51 = true := by kernel_rfl
theorem nt52 : Tryd.f52.ntmps = 19 := rfl
theorem rs52 : Tryd.f52.results.toList = [.tmp 2] := rfl
@[go_sem] theorem cb52 : callable Tryd.prog 52 = true := by kernel_rfl
theorem nt53 : Tryd.f53.ntmps = 9 := rfl
theorem rs53 : Tryd.f53.results.toList = [.tmp 2] := rfl
@[go_sem] theorem cb53 : callable Tryd.prog 53 = true := by kernel_rfl
theorem nt54 : Tryd.f54.ntmps = 13 := rfl
theorem rs54 : Tryd.f54.results.toList = [.tmp 2] := rfl
@[go_sem] theorem cb54 : callable Tryd.prog 54 = true := by kernel_rfl
theorem nt55 : Tryd.f55.ntmps = 54 := rfl
theorem rs55 : Tryd.f55.results.toList = [.tmp 4, .tmp 5] := rfl
@[go_sem] theorem cb55 : callable Tryd.prog 55 = true := by kernel_rfl
theorem nt56 : Tryd.f56.ntmps = 43 := rfl
theorem rs56 : Tryd.f56.results.toList = [.tmp 4] := rfl
@[go_sem] theorem cb56 : callable Tryd.prog 56 = true := by kernel_rfl
theorem nt57 : Tryd.f57.ntmps = 9 := rfl
theorem rs57 : Tryd.f57.results.toList = [.tmp 4] := rfl
@[go_sem] theorem cb57 : callable Tryd.prog 57 = true := by kernel_rfl
theorem nt58 : Tryd.f58.ntmps = 22 := rfl
theorem rs58 : Tryd.f58.results.toList = [.tmp 2] := rfl
@[go_sem] theorem cb58 : callable Tryd.prog 58 = true := by kernel_rfl
theorem nt59 : Tryd.f59.ntmps = 3 := rfl
theorem rs59 : Tryd.f59.results.toList = [.tmp 0] := rfl
@[go_sem] theorem cb59 : callable Tryd.prog 59 = true := by kernel_rfl
theorem nt60 : Tryd.f60.ntmps = 130 := rfl
theorem rs60 : Tryd.f60.results.toList = [.tmp 4] := rfl
@[go_sem] theorem cb60 : callable Tryd.prog 60 = true := by kernel_rfl
theorem nt61 : Tryd.f61.ntmps = 8 := rfl
theorem rs61 : Tryd.f61.results.toList = [.tmp 2] := rfl
@[go_sem] theorem cb61 : callable Tryd.prog 61 = true := by kernel_rfl
theorem nt62 : Tryd.f62.ntmps = 18 := rfl
theorem rs62 : Tryd.f62.results.toList = [] := rfl
@[go_sem] theorem cb62 : callable Tryd.prog 62 = true := by kernel_rfl
theorem nt63 : Tryd.f63.ntmps = 19 := rfl
theorem rs63 : Tryd.f63.results.toList = [.tmp 4, .tmp 5] := rfl
@[go_sem] theorem cb63 : callable Tryd.prog 63 = true := by kernel_rfl
theorem nt64 : Tryd.f64.ntmps = 14 := rfl
theorem rs64 : Tryd.f64.results.toList = [.tmp 2] := rfl
@[go_sem] theorem cb64 : callable Tryd.prog 64 = true := by kernel_rfl
theorem nt65 : Tryd.f65.ntmps = 79 := rfl
theorem rs65 : Tryd.f65.results.toList = [.tmp 8] := rfl
@[go_sem] theorem cb65 : callable Tryd.prog 65 = true := by kernel_rfl
theorem nt66 : Tryd.f66.ntmps = 45 := rfl
theorem rs66 : Tryd.f66.results.toList = [.cell 8 45] := rfl
@[go_sem] theorem cb66 : callable Tryd.prog 66 = true := by kernel_rfl
theorem nt67 : Tryd.f67.ntmps = 32 := rfl
theorem rs67 : Tryd.f67.results.toList = [.tmp 6] := rfl
@[go_sem] theorem cb67 : callable Tryd.prog 67 = true := by kernel_rfl
theorem nt68 : Tryd.f68.ntmps = 38 := rfl
theorem rs68 : Tryd.f68.results.toList = [.tmp 4] := rfl
@[go_sem] theorem cb68 : callable Tryd.prog 68 = true := by kernel_rfl
theorem nt69 : Tryd.f69.ntmps = 26 := rfl
theorem rs69 : Tryd.f69.results.toList = [.tmp 4] := rfl
@[go_sem] theorem cb69 : callable Tryd.prog 69 = true := by kernel_rfl
theorem nt70 : Tryd.f70.ntmps = 39 := rfl
theorem rs70 : Tryd.f70.results.toList = [.tmp 6] := rfl
@[go_sem] theorem cb70 : callable Tryd.prog 70 = true := by kernel_rfl
theorem nt71 : Tryd.f71.ntmps = 5 := rfl
theorem rs71 : Tryd.f71.results.toList = [.tmp 2] := rfl
@[go_sem] theorem cb71 : callable Tryd.prog 71 = true := by kernel_rfl
theorem nt72 : Tryd.f72.ntmps = 56 := rfl
theorem rs72 : Tryd.f72.results.toList = [.tmp 4, .tmp 5] := rfl
@[go_sem] theorem cb72 : callable Tryd.prog 72 = true := by kernel_rfl
theorem nt73 : Tryd.f73.ntmps = 21 := rfl
theorem rs73 : Tryd.f73.results.toList = [.cell 4 68, .tmp 5] := rfl
@[go_sem] theorem cb73 : callable Tryd.prog 73 = true := by kernel_rfl
theorem nt74 : Tryd.f74.ntmps = 9 := rfl
theorem rs74 : Tryd.f74.results.toList = [.tmp 2] := rfl
@[go_sem] theorem cb74 : callable Tryd.prog 74 = true := by kernel_rfl
theorem nt75 : Tryd.f75.ntmps = 170 := rfl
theorem rs75 : Tryd.f75.results.toList = [.tmp 6, .tmp 7] := rfl
@[go_sem] theorem cb75 : callable Tryd.prog 75 = true := by kernel_rfl
theorem nt76 : Tryd.f76.ntmps = 182 := rfl
theorem rs76 : Tryd.f76.results.toList = [.tmp 8, .tmp 9] := rfl
@[go_sem] theorem cb76 : callable Tryd.prog 76 = true := by kernel_rfl
theorem nt77 : Tryd.f77.ntmps = 104 := rfl
theorem rs77 : Tryd.f77.results.toList = [.tmp 4] := rfl
@[go_sem] theorem cb77 : callable Tryd.prog 77 = true := by kernel_rfl
theorem nt78 : Tryd.f78.ntmps = 9 := rfl
theorem rs78 : Tryd.f78.results.toList = [.tmp 4] := rfl
@[go_sem] theorem cb78 : callable Tryd.prog 78 = true := by kernel_rfl
theorem nt79 : Tryd.f79.ntmps = 11 := rfl
theorem rs79 : Tryd.f79.results.toList = [] := rfl
@[go_sem] theorem cb79 : callable Tryd.prog 79 = true := by kernel_rfl
theorem nt80 : Tryd.f80.ntmps = 61 := rfl
theorem rs80 : Tryd.f80.results.toList = [.tmp 2] := rfl
@[go_sem] theorem cb80 : callable Tryd.prog 80 = true := by kernel_rfl
theorem nt81 : Tryd.f81.ntmps = 26 := rfl
theorem rs81 : Tryd.f81.results.toList = [.tmp 6] := rfl
@[go_sem] theorem cb81 : callable Tryd.prog 81 = true := by kernel_rfl
theorem nt82 : Tryd.f82.ntmps = 9 := rfl
theorem rs82 : Tryd.f82.results.toList = [.tmp 2] := rfl
@[go_sem] theorem cb82 : callable Tryd.prog 82 = true := by kernel_rfl
theorem nt83 : Tryd.f83.ntmps = 17 := rfl
theorem rs83 : Tryd.f83.results.toList = [.tmp 2] := rfl
@[go_sem] theorem cb83 : callable Tryd.prog 83 = true := by kernel_rfl
theorem nt84 : Tryd.f84.ntmps = 8 := rfl
theorem rs84 : Tryd.f84.results.toList = [.tmp 4] := rfl
@[go_sem] theorem cb84 : callable Tryd.prog 84 = true := by kernel_rfl
theorem nt85 : Tryd.f85.ntmps = 19 := rfl
theorem rs85 : Tryd.f85.results.toList = [.tmp 4] := rfl
@[go_sem] theorem cb85 : callable Tryd.prog 85 = true := by kernel_rfl
theorem nt86 : Tryd.f86.ntmps = 59 := rfl
theorem rs86 : Tryd.f86.results.toList = [.tmp 4] := rfl
@[go_sem] theorem cb86 : callable Tryd.prog 86 = true := by kernel_rfl
theorem nt87 : Tryd.f87.ntmps = 17 := rfl
theorem rs87 : Tryd.f87.results.toList = [.tmp 4] := rfl
@[go_sem] theorem cb87 : callable Tryd.prog 87 = true := by kernel_rfl
theorem nt88 : Tryd.f88.ntmps = 6 := rfl
theorem rs88 : Tryd.f88.results.toList = [.tmp 2] := rfl
@[go_sem] theorem cb88 : callable Tryd.prog 88 = true := by kernel_rfl
theorem nt89 : Tryd.f89.ntmps = 17 := rfl
theorem rs89 : Tryd.f89.results.toList = [.tmp 4] := rfl
@[go_sem] theorem cb89 : callable Tryd.prog 89 = true := by kernel_rfl
theorem nt90 : Tryd.f90.ntmps = 23 := rfl
theorem rs90 : Tryd.f90.results.toList = [.tmp 4] := rfl
@[go_sem] theorem cb90 : callable Tryd.prog 90 = true := by kernel_rfl
theorem nt91 : Tryd.f91.ntmps = 21 := rfl
theorem rs91 : Tryd.f91.results.toList = [.cell 2 143, .tmp 3] := rfl
@[go_sem] theorem cb91 : callable Tryd.prog 91 = true := by kernel_rfl
theorem nt92 : Tryd.f92.ntmps = 16 := rfl
theorem rs92 : Tryd.f92.results.toList = [.tmp 4] := rfl
@[go_sem] theorem cb92 : callable Tryd.prog 92 = true := by kernel_rfl
theorem nt93 : Tryd.f93.ntmps = 22 := rfl
theorem rs93 : Tryd.f93.results.toList = [.tmp 4] := rfl
@[go_sem] theorem cb93 : callable Tryd.prog 93 = true := by kernel_rfl
theorem nt94 : Tryd.f94.ntmps = 23 := rfl
theorem rs94 : Tryd.f94.results.toList = [.tmp 4] := rfl
@[go_sem] theorem cb94 : callable Tryd.prog 94 = true := by kernel_rfl
theorem nt95 : Tryd.f95.ntmps = 34 := rfl
theorem rs95 : Tryd.f95.results.toList = [.tmp 4] := rfl
@[go_sem] theorem cb95 : callable Tryd.prog 95 = true := by kernel_rfl
theorem nt96 : Tryd.f96.ntmps = 8 := rfl
theorem rs96 : Tryd.f96.results.toList = [.tmp 4] := rfl
@[go_sem] theorem cb96 : callable Tryd.prog 96 = true := by kernel_rfl
theorem nt97 : Tryd.f97.ntmps = 27 := rfl
theorem rs97 : Tryd.f97.results.toList = [.tmp 2] := rfl
@[go_sem] theorem cb97 : callable Tryd.prog 97 = true := by kernel_rfl
theorem nt98 : Tryd.f98.ntmps = 5 := rfl
theorem rs98 : Tryd.f98.results.toList = [.tmp 2] := rfl
@[go_sem] theorem cb98 : callable Tryd.prog 98 = true := by kernel_rfl
theorem nt99 : Tryd.f99.ntmps = 20 := rfl
theorem rs99 : Tryd.f99.results.toList = [] := rfl
@[go_sem] theorem cb99 : callable Tryd.prog 99 = true := by kernel_rfl
theorem nt100 : Tryd.f100.ntmps = 4 := rfl
theorem rs100 : Tryd.f100.results.toList = [.tmp 2] := rfl
@[go_sem] theorem cb100 : callable Tryd.prog 100 = true := by kernel_rfl
theorem nt101 : Tryd.f101.ntmps = 31 := rfl
theorem rs101 : Tryd.f101.results.toList = [.tmp 4, .tmp 5] := rfl
@[go_sem] theorem cb101 : callable Tryd.prog 101 = true := by kernel_rfl
theorem nt102 : Tryd.f102.ntmps = 19 := rfl
theorem rs102 : Tryd.f102.results.toList = [.tmp 4] := rfl
@[go_sem] theorem cb102 : callable Tryd.prog 102 = true := by kernel_rfl
theorem nt103 : Tryd.f103.ntmps = 19 := rfl
theorem rs103 : Tryd.f103.results.toList = [.tmp 4, .tmp 5] := rfl
@[go_sem] theorem cb103 : callable Tryd.prog 103 = true := by kernel_rfl
theorem nt104 : Tryd.f104.ntmps = 48 := rfl
theorem rs104 : Tryd.f104.results.toList = [.tmp 6, .tmp 7] := rfl
@[go_sem] theorem cb104 : callable Tryd.prog 104 = true := by kernel_rfl
theorem nt105 : Tryd.f105.ntmps = 35 := rfl
theorem rs105 : Tryd.f105.results.toList = [.tmp 4, .tmp 5] := rfl
@[go_sem] theorem cb105 : callable Tryd.prog 105 = true := by kernel_rfl
theorem nt106 : Tryd.f106.ntmps = 9 := rfl
theorem rs106 : Tryd.f106.results.toList = [.tmp 4] := rfl
@[go_sem] theorem cb106 : callable Tryd.prog 106 = true := by kernel_rfl
theorem nt107 : Tryd.f107.ntmps = 5 := rfl
theorem rs107 : Tryd.f107.results.toList = [.tmp 2] := rfl
@[go_sem] theorem cb107 : callable Tryd.prog 107 = true := by kernel_rfl
theorem nt108 : Tryd.f108.ntmps = 11 := rfl
theorem rs108 : Tryd.f108.results.toList = [.tmp 3] := rfl
@[go_sem] theorem cb108 : callable Tryd.prog 108 = true := by kernel_rfl
theorem nt109 : Tryd.f109.ntmps = 17 := rfl
theorem rs109 : Tryd.f109.results.toList = [.tmp 2] := rfl
@[go_sem] theorem cb109 : callable Tryd.prog 109 = true := by kernel_rfl
theorem nt110 : Tryd.f110.ntmps = 19 := rfl
theorem rs110 : Tryd.f110.results.toList = [.tmp 4] := rfl
@[go_sem] theorem cb110 : callable Tryd.prog 110 = true := by kernel_rfl
theorem nt111 : Tryd.f111.ntmps = 134 := rfl
theorem rs111 : Tryd.f111.results.toList = [] := rfl
@[go_sem] theorem cb111 : callable Tryd.prog 111 = true := by kernel_rfl
theorem nt112 : Tryd.f112.ntmps = 8 := rfl
theorem rs112 : Tryd.f112.results.toList = [.tmp 2] := rfl
@[go_sem] theorem cb112 : callable Tryd.prog 112 = true := by kernel_rfl
@[go_sem] theorem cb113 : callable Tryd.prog 113 = false := by kernel_rfl
theorem nt114 : Tryd.f114.ntmps = 114 := rfl
theorem rs114 : Tryd.f114.results.toList = [.tmp 4] := rfl
@[go_sem] theorem cb114 : callable Tryd.prog 114 = true := by kernel_rfl
theorem nt115 : Tryd.f115.ntmps = 99 := rfl
theorem rs115 : Tryd.f115.results.toList = [.tmp 4] := rfl
@[go_sem] theorem cb115 : callable Tryd.prog 115 = true := by kernel_rfl
theorem nt116 : Tryd.f116.ntmps = 6 := rfl
theorem rs116 : Tryd.f116.results.toList = [.tmp 2] := rfl
@[go_sem] theorem cb116 : callable Tryd.prog 116 = true := by kernel_rfl
theorem nt117 : Tryd.f117.ntmps = 10 := rfl
theorem rs117 : Tryd.f117.results.toList = [.tmp 4] := rfl
@[go_sem] theorem cb117 : callable Tryd.prog 117 = true := by kernel_rfl
theorem nt118 : Tryd.f118.ntmps = 19 := rfl
theorem rs118 : Tryd.f118.results.toList = [.tmp 2, .tmp 3] := rfl
@[go_sem] theorem cb118 : callable Tryd.prog 118 = true := by kernel_rfl
theorem nt119 : Tryd.f119.ntmps = 9 := rfl
theorem rs119 : Tryd.f119.results.toList = [.tmp 4] := rfl
@[go_sem] theorem cb119 : callable Tryd.prog 119 = true := by kernel_rfl
theorem nt120 : Tryd.f120.ntmps = 51 := rfl
theorem rs120 : Tryd.f120.results.toList = [.tmp 2, .tmp 3] := rfl
@[go_sem] theorem cb120 : callable Tryd.prog 120 = true := by kernel_rfl
theorem nt121 : Tryd.f121.ntmps = 21 := rfl
theorem rs121 : Tryd.f121.results.toList = [.tmp 6] := rfl
@[go_sem] theorem cb121 : callable Tryd.prog 121 = true := by kernel_rfl
theorem nt122 : Tryd.f122.ntmps = 17 := rfl
theorem rs122 : Tryd.f122.results.toList = [.tmp 2, .tmp 3] := rfl
@[go_sem] theorem cb122 : callable Tryd.prog 122 = true := by kernel_rfl
theorem nt123 : Tryd.f123.ntmps = 9 := rfl
theorem rs123 : Tryd.f123.results.toList = [.tmp 2] := rfl
@[go_sem] theorem cb123 : callable Tryd.prog 123 = true := by kernel_rfl
theorem nt124 : Tryd.f124.ntmps = 5 := rfl
theorem rs124 : Tryd.f124.results.toList = [.tmp 2] := rfl
@[go_sem] theorem cb124 : callable Tryd.prog 124 = true := by kernel_rfl
@[go_sem] theorem cb125 : callable Tryd.prog 125 = false := by kernel_rfl
theorem nt126 : Tryd.f126.ntmps = 19 := rfl
theorem rs126 : Tryd.f126.results.toList = [.tmp 4] := rfl
@[go_sem] theorem cb126 : callable Tryd.prog 126 = true := by kernel_rfl
theorem nt127 : Tryd.f127.ntmps = 49 := rfl
theorem rs127 : Tryd.f127.results.toList = [] := rfl
@[go_sem] theorem cb127 : callable Tryd.prog 127 = true := by kernel_rfl
theorem nt128 : Tryd.f128.ntmps = 56 := rfl
theorem rs128 : Tryd.f128.results.toList = [] := rfl
@[go_sem] theorem cb128 : callable Tryd.prog 128 = true := by kernel_rfl
theorem nt129 : Tryd.f129.ntmps = 65 := rfl
theorem rs129 : Tryd.f129.results.toList = [] := rfl
@[go_sem] theorem cb129 : callable Tryd.prog 129 = true := by kernel_rfl
theorem nt130 : Tryd.f130.ntmps = 57 := rfl
theorem rs130 : Tryd.f130.results.toList = [.tmp 6, .tmp 7] := rfl
@[go_sem] theorem cb130 : callable Tryd.prog 130 = true := by kernel_rfl
theorem nt131 : Tryd.f131.ntmps = 32 := rfl
theorem rs131 : Tryd.f131.results.toList = [] := rfl
@[go_sem] theorem cb131 : callable Tryd.prog 131 = true := by kernel_rfl
theorem nt132 : Tryd.f132.ntmps = 133 := rfl
theorem rs132 : Tryd.f132.results.toList = [.tmp 6] := rfl
@[go_sem] theorem cb132 : callable Tryd.prog 132 = true := by kernel_rfl
theorem nt133 : Tryd.f133.ntmps = 84 := rfl
theorem rs133 : Tryd.f133.results.toList = [.tmp 8] := rfl
@[go_sem] theorem cb133 : callable Tryd.prog 133 = true := by kernel_rfl
theorem nt134 : Tryd.f134.ntmps = 168 := rfl
theorem rs134 : Tryd.f134.results.toList = [.tmp 8, .tmp 9] := rfl
@[go_sem] theorem cb134 : callable Tryd.prog 134 = true := by kernel_rfl
theorem nt135 : Tryd.f135.ntmps = 19 := rfl
theorem rs135 : Tryd.f135.results.toList = [.tmp 2] := rfl
@[go_sem] theorem cb135 : callable Tryd.prog 135 = true := by kernel_rfl
theorem nt136 : Tryd.f136.ntmps = 25 := rfl
theorem rs136 : Tryd.f136.results.toList = [.tmp 2] := rfl
@[go_sem] theorem cb136 : callable Tryd.prog 136 = true := by kernel_rfl
theorem nt137 : Tryd.f137.ntmps = 117 := rfl
theorem rs137 : Tryd.f137.results.toList = [.tmp 2, .tmp 3] := rfl
@[go_sem] theorem cb137 : callable Tryd.prog 137 = true := by kernel_rfl
theorem nt138 : Tryd.f138.ntmps = 187 := rfl
theorem rs138 : Tryd.f138.results.toList = [.tmp 4] := rfl
@[go_sem] theorem cb138 : callable Tryd.prog 138 = true := by kernel_rfl
theorem nt139 : Tryd.f139.ntmps = 6 := rfl
theorem rs139 : Tryd.f139.results.toList = [.tmp 2] := rfl
@[go_sem] theorem cb139 : callable Tryd.prog 139 = true := by kernel_rfl
theorem nt140 : Tryd.f140.ntmps = 54 := rfl
theorem rs140 : Tryd.f140.results.toList = [.tmp 4] := rfl
@[go_sem] theorem cb140 : callable Tryd.prog 140 = true := by kernel_rfl
theorem nt141 : Tryd.f141.ntmps = 76 := rfl
theorem rs141 : Tryd.f141.results.toList = [] := rfl
@[go_sem] theorem cb141 : callable Tryd.prog 141 = true := by kernel_rfl
theorem nt142 : Tryd.f142.ntmps = 7 := rfl
theorem rs142 : Tryd.f142.results.toList = [.tmp 2] := rfl
@[go_sem] theorem cb142 : callable Tryd.prog 142 = true := by kernel_rfl
theorem nt143 : Tryd.f143.ntmps = 33 := rfl
theorem rs143 : Tryd.f143.results.toList = [.tmp 2] := rfl
@[go_sem] theorem cb143 : callable Tryd.prog 143 = true := by kernel_rfl
theorem nt144 : Tryd.f144.ntmps = 15 := rfl
theorem rs144 : Tryd.f144.results.toList = [.tmp 6] := rfl
@[go_sem] theorem cb144 : callable Tryd.prog 144 = true := by kernel_rfl
theorem nt145 : Tryd.f145.ntmps = 36 := rfl
theorem rs145 : Tryd.f145.results.toList = [.tmp 10] := rfl
@[go_sem] theorem cb145 : callable Tryd.prog 145 = true := by kernel_rfl
theorem nt146 : Tryd.f146.ntmps = 17 := rfl
theorem rs146 : Tryd.f146.results.toList = [.tmp 2] := rfl
@[go_sem] theorem cb146 : callable Tryd.prog 146 = true := by kernel_rfl
theorem nt147 : Tryd.f147.ntmps = 6 := rfl
theorem rs147 : Tryd.f147.results.toList = [.tmp 2] := rfl
@[go_sem] theorem cb147 : callable Tryd.prog 147 = true := by kernel_rfl
@[go_sem] theorem cb148 : callable Tryd.prog 148 = false := by kernel_rfl
theorem nt149 : Tryd.f149.ntmps = 15 := rfl
theorem rs149 : Tryd.f149.results.toList = [.tmp 2] := rfl
@[go_sem] theorem cb149 : callable Tryd.prog 149 = true := by kernel_rfl
theorem nt150 : Tryd.f150.ntmps = 15 := rfl
theorem rs150 : Tryd.f150.results.toList = [.tmp 2] := rfl
@[go_sem] theorem cb150 : callable Tryd.prog 150 = true := by kernel_rfl
theorem nt151 : Tryd.f151.ntmps = 167 := rfl
theorem rs151 : Tryd.f151.results.toList = [] := rfl
@[go_sem] theorem cb151 : callable Tryd.prog 151 = true := by kernel_rfl
theorem nt152 : Tryd.f152.ntmps = 102 := rfl
theorem rs152 : Tryd.f152.results.toList = [.tmp 10, .tmp 11] := rfl
@[go_sem] theorem cb152 : callable Tryd.prog 152 = true := by kernel_rfl
theorem nt153 : Tryd.f153.ntmps = 28 := rfl
theorem rs153 : Tryd.f153.results.toList = [.tmp 8, .tmp 9] := rfl
@[go_sem] theorem cb153 : callable Tryd.prog 153 = true := by kernel_rfl
theorem nt154 : Tryd.f154.ntmps = 6 := rfl
theorem rs154 : Tryd.f154.results.toList = [.tmp 2] := rfl
@[go_sem] theorem cb154 : callable Tryd.prog 154 = true := by kernel_rfl
theorem nt155 : Tryd.f155.ntmps = 4 := rfl
theorem rs155 : Tryd.f155.results.toList = [.tmp 2] := rfl
@[go_sem] theorem cb155 : callable Tryd.prog 155 = true := by kernel_rfl
theorem nt156 : Tryd.f156.ntmps = 8 := rfl
theorem rs156 : Tryd.f156.results.toList = [.tmp 2] := rfl
@[go_sem] theorem cb156 : callable Tryd.prog 156 = true := by kernel_rfl
theorem nt157 : Tryd.f157.ntmps = 8 := rfl
theorem rs157 : Tryd.f157.results.toList = [.tmp 2] := rfl
@[go_sem] theorem cb157 : callable Tryd.prog 157 = true := by kernel_rfl
theorem nt158 : Tryd.f158.ntmps = 14 := rfl
theorem rs158 : Tryd.f158.results.toList = [.tmp 2] := rfl
@[go_sem] theorem cb158 : callable Tryd.prog 158 = true := by kernel_rfl
theorem nt159 : Tryd.f159.ntmps = 14 := rfl
theorem rs159 : Tryd.f159.results.toList = [.tmp 2] := rfl
@[go_sem] theorem cb159 : callable Tryd.prog 159 = true := by kernel_rfl
@[go_sem] theorem cb160 : callable Tryd.prog 160 = false := by kernel_rfl
@[go_sem] theorem cb161 : callable Tryd.prog 161 = false := by kernel_rfl
@[go_sem] theorem cb162 : callable Tryd.prog 162 = false := by kernel_rfl
@[go_sem] theorem cb163 : callable Tryd.prog 163 = false := by kernel_rfl
@[go_sem] theorem cb164 : callable Tryd.prog 164 = false := by kernel_rfl
@[go_sem] theorem cb165 : callable Tryd.prog 165 = false := by kernel_rfl
@[go_sem] theorem cb166 : callable Tryd.prog 166 = false := by kernel_rfl
@[go_sem] theorem cb167 : callable Tryd.prog 167 = false := by kernel_rfl
@[go_sem] theorem cb168 : callable Tryd.prog 168 = false := by kernel_rfl
@[go_sem] theorem cb169 : callable Tryd.prog 169 = false := by kernel_rfl
@[go_sem] theorem cb170 : callable Tryd.prog 170 = false := by kernel_rfl
@[go_sem] theorem cb171 : callable Tryd.prog 171 = false := by kernel_rfl
@[go_sem] theorem cb172 : callable Tryd.prog 172 = false := by kernel_rfl
@[go_sem] theorem cb173 : callable Tryd.prog 173 = false := by kernel_rfl
@[go_sem] theorem cb174 : callable Tryd.prog 174 = false := by kernel_rfl
@[go_sem] theorem cb175 : callable Tryd.prog 175 = false := by kernel_rfl
@[go_sem] theorem cb176 : callable Tryd.prog 176 = false := by kernel_rfl
@[go_sem] theorem cb177 : callable Tryd.prog 177 = false := by kernel_rfl
@[go_sem] theorem cb178 : callable Tryd.prog 178 = false := by kernel_rfl
@[go_sem] theorem cb179 : callable Tryd.prog 179 = false := by kernel_rfl
@[go_sem] theorem cb180 : callable Tryd.prog 180 = false := by kernel_rfl
@[go_sem] theorem cb181 : callable Tryd.prog 181 = false := by kernel_rfl
@[go_sem] theorem cb182 : callable Tryd.prog 182 = false := by kernel_rfl
@[go_sem] theorem cb183 : callable Tryd.prog 183 = false := by kernel_rfl
@[go_sem] theorem cb184 : callable Tryd.prog 184 = false := by kernel_rfl
@[go_sem] theorem cb185 : callable Tryd.prog 185 = false := by kernel_rfl
@[go_sem] theorem cb186 : callable Tryd.prog 186 = false := by kernel_rfl
@[go_sem] theorem cb187 : callable Tryd.prog 187 = false := by kernel_rfl
@[go_sem] theorem cb188 : callable Tryd.prog 188 = false := by kernel_rfl
theorem nt189 : Tryd.f189.ntmps = 21 := rfl
theorem rs189 : Tryd.f189.results.toList = [] := rfl
@[go_sem] theorem cb189 : callable Tryd.prog 189 = true := by kernel_rfl
@[go_sem] theorem gla0 : glA 0 = .fp 256 fun j => .v (spaceL.getD j undef) := by simp [glA, glV, gl, spaceL_length]
theorem mixed : Tryd.prog.follows .mixedOrders = true := by kernel_rfl
end Go.Proofs.YtmalhikcdideoaaDoor
