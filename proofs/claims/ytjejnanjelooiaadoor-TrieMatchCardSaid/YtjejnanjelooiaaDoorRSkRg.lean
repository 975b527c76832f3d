/-
  THE SEAT'S FUNCTIONS WITH RANGES OVER FUNCTIONS, printed by program (wip/gencoder.py) off the loaded program; each equation is the kernel's.
-/
import Derived.Test.YtjejnanjelooiaaDoorRAm44
import Derived.Test.YtjejnanjelooiaaDoorProg
import Derived.KernelRfl
namespace Go.Am
open Go.Proofs (Tryd.prog)

/-- 14: (*herald/trie.Trie(int)).Copy, with a range -/
noncomputable def S.trie_Trie_int_Copy_as : Code := rangeAs Go.Proofs.Tryd.f14
noncomputable def S.trie_Trie_int_Copy_bd : Code := rangeBd Go.Proofs.Tryd.f14
noncomputable def S.trie_Trie_int_Copy_r : SFR := (SFR.mk 18 [RV.tmp 2] (R.seq (R.c (C.reg [SI.mk (some 2) none (X.op (I.mov (A.c V.nilptr)))])) (R.seq (R.seq (R.c (C.reg [SI.mk (some 6) none (X.op (I.mov (A.t 0))), SI.mk (some 7) none (X.call (A.c (V.func (Fn.func 29) [] [])) [A.t 6])])) (R.cond (A.t 7) (R.seq (R.c (C.reg [SI.mk (some 2) none (X.op (I.mov (A.c V.nilptr)))])) (R.c C.ret)) (R.c C.skip))) (R.seq (R.c (C.reg [SI.mk (some 8) none (X.call (A.c (V.func (Fn.func 8) [] [])) []), SI.mk (some 3) none (X.op (I.alloc [V.nilptr])), SI.mk none none (X.op (I.store 1 (A.t 3) (A.t 8)))])) (R.seq (R.seq (R.c (C.reg [SI.mk (some 9) none (X.op (I.mov (A.t 0))), SI.mk (some 10) none (X.call (A.c (V.func (Fn.func 38) [] [])) [A.t 9])])) (R.block 0 (R.rfor (A.t 10) (Array.mk [11, 12]) S.trie_Trie_int_Copy_as S.trie_Trie_int_Copy_bd))) (R.seq (R.c (C.reg [SI.mk (some 17) none (X.op (I.load false 1 (A.t 3))), SI.mk (some 2) none (X.op (I.mov (A.t 17)))])) (R.c C.ret)))))))
def S.trie_Trie_int_Copy_ca : C := (C.seq (C.reg [SI.mk (some 4) none (X.op (I.alloc [V.int IntKind.i64 0, V.int IntKind.u64 0, V.str [], V.int IntKind.i64 0])), SI.mk none none (X.op (I.store 4 (A.t 4) (A.t 11)))]) (C.reg [SI.mk (some 5) none (X.op (I.mov (A.t 12)))]))
def S.trie_Trie_int_Copy_cb : C := (C.block 1 (C.reg [SI.mk (some 13) none (X.op (I.load false 1 (A.t 3))), SI.mk (some 14) none (X.op (I.load true 4 (A.t 4))), SI.mk (some 15) none (X.op (I.mov (A.t 5))), SI.mk (some 16) none (X.call (A.c (V.func (Fn.func 9) [] [])) [A.t 13, A.t 14, A.t 15])]))
theorem S.trie_Trie_int_Copy_rcode : compileFR Tryd.prog Go.Proofs.Tryd.f14 = some S.trie_Trie_int_Copy_r := by kernel_rfl
theorem S.trie_Trie_int_Copy_cas : compileC Tryd.prog Go.Proofs.Tryd.f14.ntmps S.trie_Trie_int_Copy_as = some S.trie_Trie_int_Copy_ca := by kernel_rfl
theorem S.trie_Trie_int_Copy_cbd : compileC Tryd.prog Go.Proofs.Tryd.f14.ntmps S.trie_Trie_int_Copy_bd = some S.trie_Trie_int_Copy_cb := by kernel_rfl
end Go.Am
