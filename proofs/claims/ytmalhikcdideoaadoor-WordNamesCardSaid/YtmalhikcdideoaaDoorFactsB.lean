/- Closed facts on the program: its types, its functions. -/
import Derived.Test.YtmalhikcdideoaaDoorFacts
namespace Go.Proofs.YtmalhikcdideoaaDoor
open Go Sl
def rep (n : Nat) (v : Value) : List Value := List.replicate n v
theorem rep_at (n k : Nat) (v : Value) : (rep n v)[k]?.getD undef = if k < n then v else undef := by by_cases h : k < n <;> simp [rep, h]
@[go_sem] theorem zr85 : zeroA Tryd.prog 85 = some (256, rep 256 (.int .u8 0)) := by kernel_rfl
@[go_sem] theorem ld143 : ldT Tryd.prog 143 = some (256, true) := by kernel_rfl
@[go_sem] theorem elt143 : eltT Tryd.prog 143 = none := by kernel_rfl
@[go_sem] theorem arr143 : arrT Tryd.prog 143 = some (256, 1, false) := by kernel_rfl
@[go_sem] theorem und143 : Tryd.prog.underlying 143 = some (.array 256 4) := by kernel_rfl
@[go_sem] theorem zr143 : zeroA Tryd.prog 143 = some (256, rep 256 (.bool false)) := by kernel_rfl
@[go_sem] theorem by143 : bytesT Tryd.prog 143 = some 256 := by kernel_rfl
@[go_sem] theorem ld147 : ldT Tryd.prog 147 = some (1, false) := by kernel_rfl
@[go_sem] theorem und147 : Tryd.prog.underlying 147 = some (.pointer 143) := by kernel_rfl
@[go_sem] theorem zr147 : zeroA Tryd.prog 147 = some (1, [.pointer none]) := by kernel_rfl
theorem zv147 : zeroV Tryd.prog 147 = some (.v (.pointer none)) := by kernel_rfl
@[go_sem] theorem by147 : bytesT Tryd.prog 147 = some 8 := by kernel_rfl
@[go_sem] theorem ld200 : ldT Tryd.prog 200 = some (2, true) := by kernel_rfl
@[go_sem] theorem zr200 : zeroA Tryd.prog 200 = some (2, [.int .u8 0, .int .u8 0]) := by kernel_rfl
theorem zv200 : zeroV Tryd.prog 200 = some (aggL [.v (.int .u8 0), .v (.int .u8 0)]) := by kernel_rfl
@[go_sem] theorem by200 : bytesT Tryd.prog 200 = some 2 := by kernel_rfl
@[go_sem] theorem pl200 : placesT Tryd.prog 200 = some [(0, 1), (1, 1)] := by kernel_rfl
@[go_sem] theorem ld201 : ldT Tryd.prog 201 = some (32, true) := by kernel_rfl
@[go_sem] theorem elt201 : eltT Tryd.prog 201 = none := by kernel_rfl
@[go_sem] theorem arr201 : arrT Tryd.prog 201 = some (16, 2, true) := by kernel_rfl
@[go_sem] theorem und201 : Tryd.prog.underlying 201 = some (.array 16 200) := by kernel_rfl
@[go_sem] theorem zr201 : zeroA Tryd.prog 201 = some (32, [.int .u8 0, .int .u8 0, .int .u8 0, .int .u8 0, .int .u8 0, .int .u8 0, .int .u8 0, .int .u8 0, .int .u8 0, .int .u8 0, .int .u8 0, .int .u8 0, .int .u8 0, .int .u8 0, .int .u8 0, .int .u8 0, .int .u8 0, .int .u8 0, .int .u8 0, .int .u8 0, .int .u8 0, .int .u8 0, .int .u8 0, .int .u8 0, .int .u8 0, .int .u8 0, .int .u8 0, .int .u8 0, .int .u8 0, .int .u8 0, .int .u8 0, .int .u8 0]) := by kernel_rfl
theorem zv201 : zeroV Tryd.prog 201 = some (aggL [.v (.int .u8 0), .v (.int .u8 0), .v (.int .u8 0), .v (.int .u8 0), .v (.int .u8 0), .v (.int .u8 0), .v (.int .u8 0), .v (.int .u8 0), .v (.int .u8 0), .v (.int .u8 0), .v (.int .u8 0), .v (.int .u8 0), .v (.int .u8 0), .v (.int .u8 0), .v (.int .u8 0), .v (.int .u8 0), .v (.int .u8 0), .v (.int .u8 0), .v (.int .u8 0), .v (.int .u8 0), .v (.int .u8 0), .v (.int .u8 0), .v (.int .u8 0), .v (.int .u8 0), .v (.int .u8 0), .v (.int .u8 0), .v (.int .u8 0), .v (.int .u8 0), .v (.int .u8 0), .v (.int .u8 0), .v (.int .u8 0), .v (.int .u8 0)]) := by kernel_rfl
@[go_sem] theorem by201 : bytesT Tryd.prog 201 = some 32 := by kernel_rfl
@[go_sem] theorem fld200_0 : fldT Tryd.prog 200 0 = some (0, 1, false) := by kernel_rfl
@[go_sem] theorem fld200_1 : fldT Tryd.prog 200 1 = some (1, 1, false) := by kernel_rfl
theorem nt4 : Tryd.f4.ntmps = 18 := rfl
theorem rs4 : Tryd.f4.results.toList = [.tmp 2] := rfl
@[go_sem] theorem cb4 : callable Tryd.prog 4 = true := by kernel_rfl
theorem nt15 : Tryd.f15.ntmps = 26 := rfl
theorem rs15 : Tryd.f15.results.toList = [.tmp 4] := rfl
@[go_sem] theorem cb15 : callable Tryd.prog 15 = true := by kernel_rfl
theorem nt17 : Tryd.f17.ntmps = 38 := rfl
theorem rs17 : Tryd.f17.results.toList = [.tmp 2] := rfl
@[go_sem] theorem cb17 : callable Tryd.prog 17 = true := by kernel_rfl
theorem nt18 : Tryd.f18.ntmps = 34 := rfl
theorem rs18 : Tryd.f18.results.toList = [.tmp 2] := rfl
@[go_sem] theorem cb18 : callable Tryd.prog 18 = true := by kernel_rfl
theorem nt56 : Tryd.f56.ntmps = 43 := rfl
theorem rs56 : Tryd.f56.results.toList = [.tmp 4] := rfl
@[go_sem] theorem cb56 : callable Tryd.prog 56 = true := by kernel_rfl
theorem nt57 : Tryd.f57.ntmps = 9 := rfl
theorem rs57 : Tryd.f57.results.toList = [.tmp 4] := rfl
@[go_sem] theorem cb57 : callable Tryd.prog 57 = true := by kernel_rfl
theorem nt58 : Tryd.f58.ntmps = 22 := rfl
theorem rs58 : Tryd.f58.results.toList = [.tmp 2] := rfl
@[go_sem] theorem cb58 : callable Tryd.prog 58 = true := by kernel_rfl
theorem nt89 : Tryd.f89.ntmps = 17 := rfl
theorem rs89 : Tryd.f89.results.toList = [.tmp 4] := rfl
@[go_sem] theorem cb89 : callable Tryd.prog 89 = true := by kernel_rfl
theorem nt90 : Tryd.f90.ntmps = 23 := rfl
theorem rs90 : Tryd.f90.results.toList = [.tmp 4] := rfl
@[go_sem] theorem cb90 : callable Tryd.prog 90 = true := by kernel_rfl
theorem nt91 : Tryd.f91.ntmps = 21 := rfl
theorem rs91 : Tryd.f91.results.toList = [.cell 2 143, .tmp 3] := rfl
@[go_sem] theorem cb91 : callable Tryd.prog 91 = true := by kernel_rfl
theorem nt92 : Tryd.f92.ntmps = 16 := rfl
theorem rs92 : Tryd.f92.results.toList = [.tmp 4] := rfl
@[go_sem] theorem cb92 : callable Tryd.prog 92 = true := by kernel_rfl
theorem nt93 : Tryd.f93.ntmps = 22 := rfl
theorem rs93 : Tryd.f93.results.toList = [.tmp 4] := rfl
@[go_sem] theorem cb93 : callable Tryd.prog 93 = true := by kernel_rfl
theorem nt94 : Tryd.f94.ntmps = 23 := rfl
theorem rs94 : Tryd.f94.results.toList = [.tmp 4] := rfl
@[go_sem] theorem cb94 : callable Tryd.prog 94 = true := by kernel_rfl
theorem nt95 : Tryd.f95.ntmps = 34 := rfl
theorem rs95 : Tryd.f95.results.toList = [.tmp 4] := rfl
@[go_sem] theorem cb95 : callable Tryd.prog 95 = true := by kernel_rfl
theorem nt96 : Tryd.f96.ntmps = 8 := rfl
theorem rs96 : Tryd.f96.results.toList = [.tmp 4] := rfl
@[go_sem] theorem cb96 : callable Tryd.prog 96 = true := by kernel_rfl
theorem nt117 : Tryd.f117.ntmps = 10 := rfl
theorem rs117 : Tryd.f117.results.toList = [.tmp 4] := rfl
@[go_sem] theorem cb117 : callable Tryd.prog 117 = true := by kernel_rfl
theorem nt118 : Tryd.f118.ntmps = 19 := rfl
theorem rs118 : Tryd.f118.results.toList = [.tmp 2, .tmp 3] := rfl
@[go_sem] theorem cb118 : callable Tryd.prog 118 = true := by kernel_rfl
theorem nt119 : Tryd.f119.ntmps = 9 := rfl
theorem rs119 : Tryd.f119.results.toList = [.tmp 4] := rfl
@[go_sem] theorem cb119 : callable Tryd.prog 119 = true := by kernel_rfl
theorem nt120 : Tryd.f120.ntmps = 51 := rfl
theorem rs120 : Tryd.f120.results.toList = [.tmp 2, .tmp 3] := rfl
@[go_sem] theorem cb120 : callable Tryd.prog 120 = true := by kernel_rfl
theorem nt121 : Tryd.f121.ntmps = 21 := rfl
theorem rs121 : Tryd.f121.results.toList = [.tmp 6] := rfl
@[go_sem] theorem cb121 : callable Tryd.prog 121 = true := by kernel_rfl
theorem nt137 : Tryd.f137.ntmps = 117 := rfl
theorem rs137 : Tryd.f137.results.toList = [.tmp 2, .tmp 3] := rfl
@[go_sem] theorem cb137 : callable Tryd.prog 137 = true := by kernel_rfl
theorem nt138 : Tryd.f138.ntmps = 187 := rfl
theorem rs138 : Tryd.f138.results.toList = [.tmp 4] := rfl
@[go_sem] theorem cb138 : callable Tryd.prog 138 = true := by kernel_rfl
theorem nt139 : Tryd.f139.ntmps = 6 := rfl
theorem rs139 : Tryd.f139.results.toList = [.tmp 2] := rfl
@[go_sem] theorem cb139 : callable Tryd.prog 139 = true := by kernel_rfl
theorem nt146 : Tryd.f146.ntmps = 17 := rfl
theorem rs146 : Tryd.f146.results.toList = [.tmp 2] := rfl
@[go_sem] theorem cb146 : callable Tryd.prog 146 = true := by kernel_rfl
theorem nt147 : Tryd.f147.ntmps = 6 := rfl
theorem rs147 : Tryd.f147.results.toList = [.tmp 2] := rfl
@[go_sem] theorem cb147 : callable Tryd.prog 147 = true := by kernel_rfl
@[go_sem] theorem cb148 : callable Tryd.prog 148 = false := by kernel_rfl
end Go.Proofs.YtmalhikcdideoaaDoor
