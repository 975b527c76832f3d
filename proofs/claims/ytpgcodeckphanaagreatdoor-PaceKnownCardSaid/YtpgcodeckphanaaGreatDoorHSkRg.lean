/-
 THE SEAT'S FUNCTIONS WITH RANGES OVER FUNCTIONS, printed by program (wip/gencoder.py) off the loaded program; each equation is the kernel's.
-/
import Derived.Test.YtpgcodeckphanaaGreatDoorHAmR
import Derived.Test.YtpgcodeckphanaaGreatDoorProg
import Derived.KernelRfl
namespace Go.Am
open Go.Proofs (Tryz.prog)

noncomputable def S.slices_AppendSeq_api_Change_api_Change_as : Code := znn Go.Proofs.Tryz.f112
noncomputable def S.slices_AppendSeq_api_Change_api_Change_bd : Code := zm6 Go.Proofs.Tryz.f112
noncomputable def S.slices_AppendSeq_api_Change_api_Change_r : SFR := (SFR.mk 13 [RV.tmp 4] (R.seq (R.c (C.reg [SI.mk (some 2) none (X.op (I.box (A.t 0))), SI.mk (some 4) none (X.op (I.mov (A.c V.nilsl)))])) (R.seq (R.seq (R.c (C.reg [SI.mk (some 6) none (X.op (I.mov (A.t 1)))])) (R.block 0 (R.rfor (A.t 6) (Array.mk [7]) S.slices_AppendSeq_api_Change_api_Change_as S.slices_AppendSeq_api_Change_api_Change_bd))) (R.seq (R.c (C.reg [SI.mk (some 12) none (X.op (I.load false 1 (A.t 2))), SI.mk (some 4) none (X.op (I.mov (A.t 12)))])) (R.c C.ret)))))
def S.slices_AppendSeq_api_Change_api_Change_ca : C := (C.reg [SI.mk (some 5) none (X.op (I.alloc [V.bool false, V.int IntKind.i64 0, V.int IntKind.u64 0, V.str [], V.int IntKind.i64 0, V.int IntKind.u32 0, V.int IntKind.u32 0, V.int IntKind.i64 0, V.nilsl, V.str [], V.bool false, V.int IntKind.u32 0, V.bool false, V.int IntKind.u32 0, V.bool false, V.int IntKind.u32 0, V.int IntKind.u32 0, V.nilsl, V.nilsl, V.nilsl, V.bool false, V.int IntKind.u32 0, V.nilsl])), SI.mk none none (X.op (I.store 23 (A.t 5) (A.t 7)))])
def S.slices_AppendSeq_api_Change_api_Change_cb : C := (C.block 1 (C.reg [SI.mk (some 8) none (X.op (I.load false 1 (A.t 2))), SI.mk (some 9) none (X.op (I.load true 23 (A.t 5))), SI.mk (some 10) none (X.op (I.buildSlice 23 1 [V.bool false, V.int IntKind.i64 0, V.int IntKind.u64 0, V.str [], V.int IntKind.i64 0, V.int IntKind.u32 0, V.int IntKind.u32 0, V.int IntKind.i64 0, V.nilsl, V.str [], V.bool false, V.int IntKind.u32 0, V.bool false, V.int IntKind.u32 0, V.bool false, V.int IntKind.u32 0, V.int IntKind.u32 0, V.nilsl, V.nilsl, V.nilsl, V.bool false, V.int IntKind.u32 0, V.nilsl] [(0, A.t 9)])), SI.mk (some 11) none (X.op (I.append 23 240 (A.t 8) (A.t 10))), SI.mk none none (X.op (I.store 1 (A.t 2) (A.t 11)))]))
theorem S.slices_AppendSeq_api_Change_api_Change_rcode : zdC Tryz.prog Go.Proofs.Tryz.f112 = some S.slices_AppendSeq_api_Change_api_Change_r := by kernel_rfl
theorem S.slices_AppendSeq_api_Change_api_Change_cas : zam Tryz.prog Go.Proofs.Tryz.f112.ntmps S.slices_AppendSeq_api_Change_api_Change_as = some S.slices_AppendSeq_api_Change_api_Change_ca := by kernel_rfl
theorem S.slices_AppendSeq_api_Change_api_Change_cbd : zam Tryz.prog Go.Proofs.Tryz.f112.ntmps S.slices_AppendSeq_api_Change_api_Change_bd = some S.slices_AppendSeq_api_Change_api_Change_cb := by kernel_rfl
end Go.Am
