/- That each leads there. That each leads there. That each leads there. -/
import Derived.Test.YtdgjneondmmgdaaGreatDoorCa
import Derived.Test.YtdgjneondmmgdaaGreatDoorProg
namespace Go.Proofs.YtdgjneondmmgdaaGreatDoor
open Go
set_option maxRecDepth 100000
theorem lead_0 : ((List.range 60).all fun j => (Tryz.prog.funcs[0 + j]?).elim [] Tryz.prog.leadsTo == leadT (0 + j)) = true := by kernel_rfl
theorem lead_180 : ((List.range 60).all fun j => (Tryz.prog.funcs[180 + j]?).elim [] Tryz.prog.leadsTo == leadT (180 + j)) = true := by kernel_rfl
theorem lead_360 : ((List.range 60).all fun j => (Tryz.prog.funcs[360 + j]?).elim [] Tryz.prog.leadsTo == leadT (360 + j)) = true := by kernel_rfl
theorem lead_540 : ((List.range 60).all fun j => (Tryz.prog.funcs[540 + j]?).elim [] Tryz.prog.leadsTo == leadT (540 + j)) = true := by kernel_rfl
end Go.Proofs.YtdgjneondmmgdaaGreatDoor
namespace Go.Proofs.YtdgjneondmmgdaaGreatDoor
open Go
set_option maxRecDepth 100000
theorem lead_60 : ((List.range 60).all fun j => (Tryz.prog.funcs[60 + j]?).elim [] Tryz.prog.leadsTo == leadT (60 + j)) = true := by kernel_rfl
theorem lead_240 : ((List.range 60).all fun j => (Tryz.prog.funcs[240 + j]?).elim [] Tryz.prog.leadsTo == leadT (240 + j)) = true := by kernel_rfl
theorem lead_420 : ((List.range 60).all fun j => (Tryz.prog.funcs[420 + j]?).elim [] Tryz.prog.leadsTo == leadT (420 + j)) = true := by kernel_rfl
theorem lead_600 : ((List.range 58).all fun j => (Tryz.prog.funcs[600 + j]?).elim [] Tryz.prog.leadsTo == leadT (600 + j)) = true := by kernel_rfl
end Go.Proofs.YtdgjneondmmgdaaGreatDoor
namespace Go.Proofs.YtdgjneondmmgdaaGreatDoor
open Go
set_option maxRecDepth 100000
theorem lead_120 : ((List.range 60).all fun j => (Tryz.prog.funcs[120 + j]?).elim [] Tryz.prog.leadsTo == leadT (120 + j)) = true := by kernel_rfl
theorem lead_300 : ((List.range 60).all fun j => (Tryz.prog.funcs[300 + j]?).elim [] Tryz.prog.leadsTo == leadT (300 + j)) = true := by kernel_rfl
theorem lead_480 : ((List.range 60).all fun j => (Tryz.prog.funcs[480 + j]?).elim [] Tryz.prog.leadsTo == leadT (480 + j)) = true := by kernel_rfl
end Go.Proofs.YtdgjneondmmgdaaGreatDoor
