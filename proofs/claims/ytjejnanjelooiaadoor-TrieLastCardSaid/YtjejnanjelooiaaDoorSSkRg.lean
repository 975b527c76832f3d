/-
  THE SEAT'S FUNCTIONS WITH RANGES OVER FUNCTIONS, printed by program (wip/gencoder.py) off the loaded program; each equation is the kernel's.
-/
import Derived.Test.YtjejnanjelooiaaDoorSAm44
import Derived.Test.YtjejnanjelooiaaDoorProg
import Derived.KernelRfl
namespace Go.Am
open Go.Proofs (Tryd.prog)

/-- 16: herald/heraldlaw03.all, with a range -/
noncomputable def S.Hlaw03_all_as : Code := rangeAs Go.Proofs.Tryd.f16
noncomputable def S.Hlaw03_all_bd : Code := rangeBd Go.Proofs.Tryd.f16
noncomputable def S.Hlaw03_all_r : SFR := (SFR.mk 30 [RV.cell 4 false 1] (R.seq (R.c (C.reg [SI.mk (some 3) none (X.op (I.box (A.t 1))), SI.mk (some 4) none (X.op (I.alloc [V.nilsl]))])) (R.seq (R.c (C.reg [SI.mk (some 5) none (X.op (I.alloc [V.nilsl]))])) (R.seq (R.c (C.reg [SI.mk (some 9) none (X.op (I.mov (A.t 0))), SI.mk (some 10) none (X.call (A.c (V.func (Fn.func 38) [] [])) [A.t 9]), SI.mk (some 6) none (X.op (I.mov (A.t 10)))])) (R.seq (R.seq (R.c (C.reg [SI.mk (some 11) none (X.op (I.mov (A.t 6))), SI.mk (some 12) none (X.op (I.eq false TS.func (A.t 11) (A.c V.nilfunc)))])) (R.cond (A.t 12) (R.seq (R.c (C.reg [SI.mk (some 13) none (X.op (I.build [V.int IntKind.i64 0, V.int IntKind.u64 0, V.str [], V.int IntKind.i64 0, V.int IntKind.i64 0] [(4, 1, A.c (V.int IntKind.i64 (-1)))])), SI.mk (some 14) none (X.op (I.buildSlice 5 1 [V.int IntKind.i64 0, V.int IntKind.u64 0, V.str [], V.int IntKind.i64 0, V.int IntKind.i64 0] [(0, A.t 13)])), SI.mk none none (X.op (I.store 1 (A.t 4) (A.t 14)))])) (R.c C.ret)) (R.c C.skip))) (R.seq (R.seq (R.c (C.reg [SI.mk (some 15) none (X.op (I.mov (A.t 6)))])) (R.block 0 (R.rfor (A.t 15) (Array.mk [16, 17]) S.Hlaw03_all_as S.Hlaw03_all_bd))) (R.seq (R.c (C.reg [SI.mk (some 29) none (X.op (I.load false 1 (A.t 5))), SI.mk none none (X.op (I.store 1 (A.t 4) (A.t 29)))])) (R.c C.ret))))))))
def S.Hlaw03_all_ca : C := (C.seq (C.reg [SI.mk (some 7) none (X.op (I.alloc [V.int IntKind.i64 0, V.int IntKind.u64 0, V.str [], V.int IntKind.i64 0])), SI.mk none none (X.op (I.store 4 (A.t 7) (A.t 16)))]) (C.reg [SI.mk (some 8) none (X.op (I.mov (A.t 17)))]))
def S.Hlaw03_all_cb : C := (C.block 1 (C.seq (C.reg [SI.mk (some 18) none (X.op (I.load false 1 (A.t 5))), SI.mk (some 19) none (X.op (I.load true 4 (A.t 7))), SI.mk (some 20) none (X.op (I.mov (A.t 8))), SI.mk (some 21) none (X.op (I.build [V.int IntKind.i64 0, V.int IntKind.u64 0, V.str [], V.int IntKind.i64 0, V.int IntKind.i64 0] [(0, 4, A.t 19), (4, 1, A.t 20)])), SI.mk (some 22) none (X.op (I.buildSlice 5 1 [V.int IntKind.i64 0, V.int IntKind.u64 0, V.str [], V.int IntKind.i64 0, V.int IntKind.i64 0] [(0, A.t 21)])), SI.mk (some 23) none (X.op (I.append 5 48 (A.t 18) (A.t 22))), SI.mk none none (X.op (I.store 1 (A.t 5) (A.t 23)))]) (C.seq (C.reg [SI.mk (some 24) none (X.op (I.load false 1 (A.t 5))), SI.mk (some 25) none (X.op (I.len 1 (A.t 24))), SI.mk (some 26) none (X.op (I.load false 1 (A.t 3))), SI.mk (some 27) none (X.op (I.bin BinOp.gtr (A.t 25) (A.t 26)))]) (C.cond (A.t 27) (C.seq (C.reg [SI.mk (some 28) none (X.op (I.load false 1 (A.t 5))), SI.mk none none (X.op (I.store 1 (A.t 4) (A.t 28)))]) C.ret) C.skip))))
theorem S.Hlaw03_all_rcode : compileFR Tryd.prog Go.Proofs.Tryd.f16 = some S.Hlaw03_all_r := by kernel_rfl
theorem S.Hlaw03_all_cas : compileC Tryd.prog Go.Proofs.Tryd.f16.ntmps S.Hlaw03_all_as = some S.Hlaw03_all_ca := by kernel_rfl
theorem S.Hlaw03_all_cbd : compileC Tryd.prog Go.Proofs.Tryd.f16.ntmps S.Hlaw03_all_bd = some S.Hlaw03_all_cb := by kernel_rfl
end Go.Am
