/-
 THE SEAT'S FUNCTIONS IN THE QUICK FORM OF AM, printed by program (wip/genfast.py) off the loaded program; each equation is the kernel's.
-/
import Derived.Test.YtpgcodeckphanaaGreatDoorIAm18
import Derived.Test.YtpgcodeckphanaaGreatDoorProg
import Derived.KernelRfl
namespace Go.Am.Fr
open Go.Proofs (Tryz.prog)
set_option maxRecDepth 1000000

def y02 := G2 c0 c2
def y00 := G2 c0 c0
def w02 := P2 p0 p2
def y01 := G2 c0 c1
def w04 := P2 p0 p4
def y04 := G2 c0 c4
def w05 := P2 p0 p5
def y05 := G2 c0 c5
def w06 := P2 p0 p6
def y06 := G2 c0 c6
def y03 := G2 c0 c3
def w07 := P2 p0 p7
def y07 := G2 c0 c7
def w10 := P2 p1 p0
def y10 := G2 c1 c0
def w11 := P2 p1 p1
def y11 := G2 c1 c1
def w12 := P2 p1 p2
def w13 := P2 p1 p3
def y12 := G2 c1 c2
def y13 := G2 c1 c3
def w14 := P2 p1 p4
def y14 := G2 c1 c4
def w15 := P2 p1 p5
def y15 := G2 c1 c5
def w16 := P2 p1 p6
def y16 := G2 c1 c6
def w17 := P2 p1 p7
def y17 := G2 c1 c7
def w20 := P2 p2 p0
def y20 := G2 c2 c0
def w21 := P2 p2 p1
def w22 := P2 p2 p2
def y21 := G2 c2 c1
def y22 := G2 c2 c2
def w23 := P2 p2 p3
def y23 := G2 c2 c3
def w24 := P2 p2 p4
def y24 := G2 c2 c4
def w25 := P2 p2 p5
def y25 := G2 c2 c5
def w26 := P2 p2 p6
def y26 := G2 c2 c6
def w27 := P2 p2 p7
def y27 := G2 c2 c7
def w30 := P2 p3 p0
def y30 := G2 c3 c0
def w31 := P2 p3 p1
def y31 := G2 c3 c1
def w32 := P2 p3 p2
def y32 := G2 c3 c2
def y35 := G2 c3 c5
def y34 := G2 c3 c4
def y41 := G2 c4 c1
def y45 := G2 c4 c5
def y54 := G2 c5 c4
def y002 := G3 c0 c0 c2
def y003 := G3 c0 c0 c3
def w002 := P3 p0 p0 p2
def w003 := P3 p0 p0 p3
def y000 := G3 c0 c0 c0
def w020 := P3 p0 p2 p0
def y020 := G3 c0 c2 c0
def w021 := P3 p0 p2 p1
def y021 := G3 c0 c2 c1
def w004 := P3 p0 p0 p4
def w006 := P3 p0 p0 p6
def y006 := G3 c0 c0 c6
def w022 := P3 p0 p2 p2
def y022 := G3 c0 c2 c2
def w023 := P3 p0 p2 p3
def y023 := G3 c0 c2 c3
def w026 := P3 p0 p2 p6
def y026 := G3 c0 c2 c6
def w027 := P3 p0 p2 p7
def y004 := G3 c0 c0 c4
def w030 := P3 p0 p3 p0
def y030 := G3 c0 c3 c0
def w031 := P3 p0 p3 p1
def w032 := P3 p0 p3 p2
def y027 := G3 c0 c2 c7
def y032 := G3 c0 c3 c2
def w033 := P3 p0 p3 p3
def y033 := G3 c0 c3 c3
def w034 := P3 p0 p3 p4
def y005 := G3 c0 c0 c5
def w035 := P3 p0 p3 p5
def y035 := G3 c0 c3 c5
def y034 := G3 c0 c3 c4
def w024 := P3 p0 p2 p4
def y024 := G3 c0 c2 c4
def w025 := P3 p0 p2 p5
def y025 := G3 c0 c2 c5
def w036 := P3 p0 p3 p6
def w037 := P3 p0 p3 p7
def y037 := G3 c0 c3 c7
def w040 := P3 p0 p4 p0
def y040 := G3 c0 c4 c0
def w041 := P3 p0 p4 p1
def y041 := G3 c0 c4 c1
def w042 := P3 p0 p4 p2
def y042 := G3 c0 c4 c2
def w043 := P3 p0 p4 p3
def y043 := G3 c0 c4 c3
def w044 := P3 p0 p4 p4
def y044 := G3 c0 c4 c4
def w045 := P3 p0 p4 p5
def y045 := G3 c0 c4 c5
def w046 := P3 p0 p4 p6
def y046 := G3 c0 c4 c6
def w047 := P3 p0 p4 p7
def w051 := P3 p0 p5 p1
def y051 := G3 c0 c5 c1
def w052 := P3 p0 p5 p2
def y052 := G3 c0 c5 c2
def w053 := P3 p0 p5 p3
def y053 := G3 c0 c5 c3
def w054 := P3 p0 p5 p4
def y054 := G3 c0 c5 c4
def w050 := P3 p0 p5 p0
def y050 := G3 c0 c5 c0
def w055 := P3 p0 p5 p5
def w056 := P3 p0 p5 p6
def y055 := G3 c0 c5 c5
def w007 := P3 p0 p0 p7
def y056 := G3 c0 c5 c6
def w010 := P3 p0 p1 p0
def y010 := G3 c0 c1 c0
def w057 := P3 p0 p5 p7
def y057 := G3 c0 c5 c7
def w060 := P3 p0 p6 p0
def y060 := G3 c0 c6 c0
def w061 := P3 p0 p6 p1
def y061 := G3 c0 c6 c1
def w062 := P3 p0 p6 p2
def w063 := P3 p0 p6 p3
def y063 := G3 c0 c6 c3
def w064 := P3 p0 p6 p4
def w065 := P3 p0 p6 p5
def y065 := G3 c0 c6 c5
def y062 := G3 c0 c6 c2
def y064 := G3 c0 c6 c4
def w066 := P3 p0 p6 p6
def y066 := G3 c0 c6 c6
def w067 := P3 p0 p6 p7
def y067 := G3 c0 c6 c7
def w070 := P3 p0 p7 p0
def y070 := G3 c0 c7 c0
def w071 := P3 p0 p7 p1
def y071 := G3 c0 c7 c1
def w072 := P3 p0 p7 p2
def y072 := G3 c0 c7 c2
def w073 := P3 p0 p7 p3
def y073 := G3 c0 c7 c3
def w074 := P3 p0 p7 p4
def y074 := G3 c0 c7 c4
def w075 := P3 p0 p7 p5
def y075 := G3 c0 c7 c5
def w076 := P3 p0 p7 p6
def y076 := G3 c0 c7 c6
def w077 := P3 p0 p7 p7
def y077 := G3 c0 c7 c7
def w100 := P3 p1 p0 p0
def y100 := G3 c1 c0 c0
def w101 := P3 p1 p0 p1
def y101 := G3 c1 c0 c1
def y104 := G3 c1 c0 c4
def y103 := G3 c1 c0 c3
def w011 := P3 p0 p1 p1
def w012 := P3 p0 p1 p2
def y012 := G3 c0 c1 c2
def w014 := P3 p0 p1 p4
def w015 := P3 p0 p1 p5
def y011 := G3 c0 c1 c1
def y120 := G3 c1 c2 c0
def y124 := G3 c1 c2 c4
def w017 := P3 p0 p1 p7
def y014 := G3 c0 c1 c4
def y013 := G3 c0 c1 c3
def y134 := G3 c1 c3 c4
def y015 := G3 c0 c1 c5
def y140 := G3 c1 c4 c0
def y017 := G3 c0 c1 c7
def y144 := G3 c1 c4 c4
def y145 := G3 c1 c4 c5
def y146 := G3 c1 c4 c6
def w4 := P1 p4
def y001 := G3 c0 c0 c1
def w000 := P3 p0 p0 p0
def w001 := P3 p0 p0 p1
def y175 := G3 c1 c7 c5
def y200 := G3 c2 c0 c0
def y171 := G3 c1 c7 c1
def zla0 : List V := [(.int .i64 0), (.int .u64 0), (.str []), (.int .i64 0)]
def cI (n : Int) := cA (.int .i64 n)
def mK x p := oK (iMov x) p
def gF g i := gK g false (opS i)
def gT g i := gK g true (opS i)
def q.a0 : SF8 := ⟨2, 54, [(y02, none)], fun cf _ => (oK (iBox y00) (P2 p0 p1) (mK (cI 0) w02 (oK (zbo 0 y01) w04 (oK (za2 y04) w05 (sK (zaN cf 84 [y05]) w06 (oK (iMov y06) (P2 p0 p3) (seqC (zle (fun q => (mK y03 w07 (oK (iEql y07 (cI 0)) w10 (mK y10 w11 (gF y11 (zgH 4 y01) w12 (gF y11 (zej zla0 []) w13 (gK y11 false (opS (iEq false (.st [(0, 1, false, .int), (1, 1, false, .int), (2, 1, false, .str), (3, 1, false, .int)]) y12 y13)) w14 (oK (za7 y11 (cA (.bool true)) y14) w15 (mK y15 w16 (gF y16 (zbo 2 y01) w17 (gF y16 (za2 y17) w20 (gF y16 (zdk y20) w21 (gF y16 (iMov y03) w22 (gF y16 (iNeq y21 y22) w23 (oK (za7 y16 (cA (.bool true)) y23) w24 (mK y24 w25 (gF y25 (zbo 3 y01) w26 (gF y25 (za2 y26) w27 (gF y25 (iLss y27 (cI 0)) w30 (oK (za7 y25 (cA (.bool true)) y30) w31 (mK y31 w32 (gF y32 (zbo 3 y01) (P2 p3 p3) (gF y32 (za2 (G2 c3 c3)) (P2 p3 p4) (gF y32 (iMov y03) (P2 p3 p5) (gF y32 (iBin .mul (cI 8) y35) (P2 p3 p6) (gF y32 (iGtr y34 (G2 c3 c6)) (P2 p3 p7) (oK (za7 y32 (cA (.bool true)) (G2 c3 c7)) (P2 p4 p0) (oK (iMov (G2 c4 c0)) (P2 p4 p1) (gF y41 (zbo 1 y01) (P2 p4 p2) (gF y41 (za2 (G2 c4 c2)) (P2 p4 p3) (gK y41 false (opS (iNeq (G2 c4 c3) (cA (.int .u64 0)))) (P2 p4 p4) (gF y41 (iMov (G2 c4 c4)) (P2 p4 p5) (gT y45 (zbo 0 y01) (P2 p4 p6) (gT y45 (za2 (G2 c4 c6)) (P2 p4 p7) (gK y45 true (zaN cf 85 [(G2 c4 c7)]) (P2 p5 p0) (gT y45 (iUn .not (G2 c5 c0)) (P2 p5 p1) (gK y41 false (opS (za7 y45 (G2 c5 c1) (cA (.bool false)))) (P2 p5 p2) (oK (za7 y41 (cA (.bool true)) (G2 c5 c2)) (P2 p5 p3) (oK (iMov (G2 c5 c3)) (P2 p5 p4) (gF y54 (zbo 2 y01) (P2 p5 p5) (gF y54 (za2 (G2 c5 c5)) (P2 p5 p6) (gF y54 (zbo 3 y01) (P2 p5 p7) (gF y54 (za2 (G2 c5 c7)) (P2 p6 p0) (gK y54 false (zmg cf 86 [(G2 c5 c6), (G2 c6 c0)]) (P2 p6 p1) (gF y54 (zbo 2 y01) (P2 p6 p2) (gF y54 (za2 (G2 c6 c2)) (P2 p6 p3) (gF y54 (iNeq (G2 c6 c1) (G2 c6 c3)) (P2 p6 p4) (oK (za7 y54 (cA (.bool true)) (G2 c6 c4)) (P2 p6 p5) q)))))))))))))))))))))))))))))))))))))))))))))))) (zi3 2 cf [(42, 44)] [(.mk (some 7) none (.op (.mov (.t 3)))), (.mk (some 8) none (.op (.bin .eql (.t 7) (.c (.int .i64 0))))), (.mk (some 9) none (.op (.mov (.t 8)))), (.mk (some 10) (some (9, false)) (.op (.load true 4 (.t 1)))), (.mk (some 11) (some (9, false)) (.op (.build zla0 []))), (.mk (some 12) (some (9, false)) (.op (.eq false (.st [(0, 1, false, .int), (1, 1, false, .int), (2, 1, false, .str), (3, 1, false, .int)]) (.t 10) (.t 11)))), (.mk (some 13) none (.op (.pick (.t 9) (.c (.bool true)) (.t 12)))), (.mk (some 14) none (.op (.mov (.t 13)))), (.mk (some 15) (some (14, false)) (.op (.fieldAddr 2 (.t 1)))), (.mk (some 16) (some (14, false)) (.op (.load false 1 (.t 15)))), (.mk (some 17) (some (14, false)) (.op (.len 0 (.t 16)))), (.mk (some 18) (some (14, false)) (.op (.mov (.t 3)))), (.mk (some 19) (some (14, false)) (.op (.bin .neq (.t 17) (.t 18)))), (.mk (some 20) none (.op (.pick (.t 14) (.c (.bool true)) (.t 19)))), (.mk (some 21) none (.op (.mov (.t 20)))), (.mk (some 22) (some (21, false)) (.op (.fieldAddr 3 (.t 1)))), (.mk (some 23) (some (21, false)) (.op (.load false 1 (.t 22)))), (.mk (some 24) (some (21, false)) (.op (.bin .lss (.t 23) (.c (.int .i64 0))))), (.mk (some 25) none (.op (.pick (.t 21) (.c (.bool true)) (.t 24)))), (.mk (some 26) none (.op (.mov (.t 25)))), (.mk (some 27) (some (26, false)) (.op (.fieldAddr 3 (.t 1)))), (.mk (some 28) (some (26, false)) (.op (.load false 1 (.t 27)))), (.mk (some 29) (some (26, false)) (.op (.mov (.t 3)))), (.mk (some 30) (some (26, false)) (.op (.bin .mul (.c (.int .i64 8)) (.t 29)))), (.mk (some 31) (some (26, false)) (.op (.bin .gtr (.t 28) (.t 30)))), (.mk (some 32) none (.op (.pick (.t 26) (.c (.bool true)) (.t 31)))), (.mk (some 33) none (.op (.mov (.t 32)))), (.mk (some 34) (some (33, false)) (.op (.fieldAddr 1 (.t 1)))), (.mk (some 35) (some (33, false)) (.op (.load false 1 (.t 34)))), (.mk (some 36) (some (33, false)) (.op (.bin .neq (.t 35) (.c (.int .u64 0))))), (.mk (some 37) (some (33, false)) (.op (.mov (.t 36)))), (.mk (some 38) (some (37, true)) (.op (.fieldAddr 0 (.t 1)))), (.mk (some 39) (some (37, true)) (.op (.load false 1 (.t 38)))), (.mk (some 40) (some (37, true)) (.call (.c (.func (.func 85) [] [])) [(.t 39)])), (.mk (some 41) (some (37, true)) (.op (.un .not (.t 40)))), (.mk (some 42) (some (33, false)) (.op (.pick (.t 37) (.t 41) (.c (.bool false))))), (.mk (some 43) none (.op (.pick (.t 33) (.c (.bool true)) (.t 42)))), (.mk (some 44) none (.op (.mov (.t 43)))), (.mk (some 45) (some (44, false)) (.op (.fieldAddr 2 (.t 1)))), (.mk (some 46) (some (44, false)) (.op (.load false 1 (.t 45)))), (.mk (some 47) (some (44, false)) (.op (.fieldAddr 3 (.t 1)))), (.mk (some 48) (some (44, false)) (.op (.load false 1 (.t 47)))), (.mk (some 49) (some (44, false)) (.call (.c (.func (.func 86) [] [])) [(.t 46), (.t 48)])), (.mk (some 50) (some (44, false)) (.op (.fieldAddr 2 (.t 1)))), (.mk (some 51) (some (44, false)) (.op (.load false 1 (.t 50)))), (.mk (some 52) (some (44, false)) (.op (.bin .neq (.t 49) (.t 51)))), (.mk (some 53) none (.op (.pick (.t 44) (.c (.bool true)) (.t 52))))]) (zap (G2 c6 c5) (mK (cI 2) w02 retC) zak)) (mK (cI 0) w02 retC))))))))⟩
theorem q.a0o : Tab8 Tryz.prog 44 q.a0 := ⟨⟨_, Go.Proofs.Tryz.func44, by kernel_rfl⟩, by kernel_rfl⟩
def q.a1 : SF8 := ⟨3, 107, [(y002, some (true, 4)), (y003, none)], fun cf N => (oK (zgC zla0 4) w002 (mK (cI 0) w003 (mK y000 w020 (sK (zaN cf 100 [y020, (cA (.str [32]))]) w021 (mK y021 w004 (oK (zgC zla0 4) (P3 p0 p0 p5) (seqC (mK (cI 1) w006 (zaY 0 (run8 (seqC (mK y006 w022 (oK (iLeq y022 (cI 5)) w023 (zap y023 zak (zeV 0)))) (seqC (zaY 1 (zle (fun q => (mK y006 w026 (sK (zmg cf 101 [y026]) w027 (mK y004 w030 (oK (iIdx 1 y030 (cI 0)) w031 (oK (za2 (G3 c0 c3 c1)) w032 (oK (iEql y027 y032) w033 q))))))) (zi3 3 cf [(1, 4)] [(.mk (some 22) none (.op (.mov (.t 6)))), (.mk (some 23) none (.call (.c (.func (.func 101) [] [])) [(.t 22)])), (.mk (some 24) none (.op (.mov (.t 4)))), (.mk (some 25) none (.op (.indexAddr 1 (.t 24) (.c (.int .i64 0))))), (.mk (some 26) none (.op (.load false 1 (.t 25)))), (.mk (some 27) none (.op (.bin .eql (.t 23) (.t 26))))]) (zap y033 (mK y006 w034 (oK (zbo 0 y005) w035 (oK (zbV 1 y035 y034) P0 zak))) zak))) (mK y006 w024 (oK (iAdd y024 (cI 1)) w025 (mK y025 w006 zak))))) N))) (mK y004 w036 (oK (zkW 1 (G3 c0 c3 c6) (some (cI 1)) none none) w037 (mK y037 w004 (seqC (oK (zbo 0 y005) w040 (oK (za2 y040) w041 (sK (zaN cf 85 [y041]) w042 (mK y042 w043 (gT y043 (iMov y004) w044 (gT y043 (zfm y044) w045 (gT y043 (iGtr y045 (cI 1)) w046 (oK (za7 y043 y046 (cA (.bool false))) w047 (zap (G3 c0 c4 c7) (mK y004 w051 (oK (iIdx 1 y051 (cI 0)) w052 (oK (za2 y052) w053 (sK (zaN cf 102 [y053, (cI 10), (cI 64)]) w054 (mK y054 w050 (oK (zav y050 0) w055 (oK (zav y050 1) w056 (mK y055 w007 (mK y056 w010 (seqC (mK y010 w057 (oK (iUn .not y057) w060 (zap y060 (oK (zej zla0 []) w061 (oK (zbV 4 y002 y061) P0 (mK (cI 4) w003 retC))) zak))) (oK (iMov (G3 c0 c0 c7)) w062 (mK y004 w063 (oK (zkW 1 y063 (some (cI 1)) none none) w064 (oK (zbo 1 y005) w065 (oK (zbV 1 y065 y062) P0 (mK y064 w004 zak)))))))))))))))) (oK (zbo 0 y005) w066 (oK (za2 y066) w067 (sK (zaN cf 85 [y067]) w070 (zap y070 (oK (zej zla0 []) w071 (oK (zbV 4 y002 y071) P0 (mK (cI 4) w003 retC))) zak))))))))))))) (seqC (oK (zbo 0 y005) w072 (oK (za2 y072) w073 (oK (iEql y073 (cI 0)) w074 (mK y074 w075 (gF y075 (iMov y004) w076 (gF y075 (zfm y076) w077 (gF y075 (iNeq y077 (cI 1)) w100 (oK (za7 y075 (cA (.bool true)) y100) w101 (zap y101 (oK (zej zla0 []) (P3 p1 p0 p2) (oK (zbV 4 y002 (G3 c1 c0 c2)) P0 (mK (cI 4) w003 retC))) zak))))))))) (oK (iMov y004) (P3 p1 p0 p4) (oK (iIdx 1 y104 (cI 0)) (P3 p1 p0 p5) (oK (za2 (G3 c1 c0 c5)) (P3 p1 p0 p6) (sK (zaN cf 103 [(G3 c1 c0 c6), (cA (.str [47]))]) (P3 p1 p0 p7) (oK (iMov (G3 c1 c0 c7)) (P3 p1 p0 p3) (oK (zav y103 0) (P3 p1 p1 p0) (oK (zav y103 1) (P3 p1 p1 p1) (oK (zav y103 2) (P3 p1 p1 p2) (oK (iMov (G3 c1 c1 c0)) w011 (oK (iMov (G3 c1 c1 c1)) w012 (oK (iMov (G3 c1 c1 c2)) (P3 p0 p1 p3) (oK (iMov y012) (P3 p1 p1 p4) (sK (zaN cf 102 [(G3 c1 c1 c4), (cI 10), (cI 8)]) (P3 p1 p1 p5) (oK (iMov (G3 c1 c1 c5)) (P3 p1 p1 p3) (oK (zav (G3 c1 c1 c3) 0) (P3 p1 p1 p6) (oK (zav (G3 c1 c1 c3) 1) (P3 p1 p1 p7) (oK (iMov (G3 c1 c1 c6)) w014 (oK (iMov (G3 c1 c1 c7)) w015 (oK (iMov y011) (P3 p1 p2 p1) (sK (zaN cf 104 [(G3 c1 c2 c1)]) (P3 p1 p2 p2) (oK (iMov (G3 c1 c2 c2)) (P3 p1 p2 p0) (oK (zav y120 0) (P3 p1 p2 p3) (oK (zav y120 1) (P3 p1 p2 p4) (oK (iMov (G3 c1 c2 c3)) (P3 p0 p1 p6) (mK y124 w017 (oK (iMov (G3 c0 c1 c6)) (P3 p1 p2 p5) (oK (iMov y014) (P3 p1 p2 p6) (oK (zd9 .i64 (G3 c1 c2 c6)) (P3 p1 p2 p7) (oK (zbo 2 y005) (P3 p1 p3 p0) (oK (zbV 1 (G3 c1 c3 c0) (G3 c1 c2 c5)) P0 (oK (zbo 3 y005) (P3 p1 p3 p1) (oK (zbV 1 (G3 c1 c3 c1) (G3 c1 c2 c7)) P0 (seqC (oK (iMov y013) (P3 p1 p3 p2) (oK (iUn .not (G3 c1 c3 c2)) (P3 p1 p3 p3) (oK (iMov (G3 c1 c3 c3)) (P3 p1 p3 p4) (gF y134 (iMov y015) (P3 p1 p3 p5) (gF y134 (iUn .not (G3 c1 c3 c5)) (P3 p1 p3 p6) (oK (za7 y134 (cA (.bool true)) (G3 c1 c3 c6)) (P3 p1 p3 p7) (oK (iMov (G3 c1 c3 c7)) (P3 p1 p4 p0) (gF y140 (iMov y017) (P3 p1 p4 p1) (gF y140 (iNeq (G3 c1 c4 c1) (cI 0)) (P3 p1 p4 p2) (oK (za7 y140 (cA (.bool true)) (G3 c1 c4 c2)) (P3 p1 p4 p3) (oK (iMov (G3 c1 c4 c3)) (P3 p1 p4 p4) (gF y144 (zgH 4 y005) (P3 p1 p4 p5) (gK y144 false (zaN cf 44 [y145]) (P3 p1 p4 p6) (gF y144 (iNeq y146 (cI 0)) (P3 p1 p4 p7) (oK (za7 y144 (cA (.bool true)) (G3 c1 c4 c7)) (P3 p1 p5 p0) (zap (G3 c1 c5 c0) (oK (zej zla0 []) (P3 p1 p5 p1) (oK (zbV 4 y002 (G3 c1 c5 c1)) P0 (mK (cI 4) w003 retC))) zak)))))))))))))))) (oK (zgH 4 y005) (P3 p1 p5 p2) (oK (zbV 4 y002 (G3 c1 c5 c2)) P0 (mK (cI 0) w003 retC))))))))))))))))))))))))))))))))))))))))))))))))⟩
theorem q.a1o : Tab8 Tryz.prog 63 q.a1 := ⟨⟨_, Go.Proofs.Tryz.func63, by kernel_rfl⟩, by kernel_rfl⟩
def q.a2 : SF8 := ⟨2, 11, [(y02, none)], fun _ _ => (mK (cI 0) w02 (seqC (oK (iMov y00) (P2 p0 p3) (zaY 0 (seqC (oK (iEql y03 (cI 1)) w05 (mK y05 w04 (zap y04 zak (oK (iEql y03 (cI 3)) w06 (mK y06 w04 (zap y04 zak (oK (iEql y03 (cI 4)) w07 (mK y07 w04 zak)))))))) (zap y04 (mK (cI 4) w02 retC) (seqC (oK (iEql y03 (cI 2)) w11 (mK y11 w10 (zap y10 zak (oK (iEql y03 (cI 5)) w12 (mK y12 w10 zak))))) (zap y10 (mK (cI 16) w02 retC) zak)))))) (mK (cI 0) w02 retC)))⟩
theorem q.a2o : Tab8 Tryz.prog 84 q.a2 := ⟨⟨_, Go.Proofs.Tryz.func84, by kernel_rfl⟩, by kernel_rfl⟩
def q.a3 : SF8 := ⟨2, 9, [(y02, none)], fun _ _ => (mK (cA (.bool false)) w02 (oK (iMov y00) (P2 p0 p3) (oK (iEql y03 (cI 4)) w04 (mK y04 w05 (gF y05 (iMov y00) w06 (gF y05 (iEql y06 (cI 5)) w07 (oK (za7 y05 (cA (.bool true)) y07) w10 (mK y10 w02 retC))))))))⟩
theorem q.a3o : Tab8 Tryz.prog 85 q.a3 := ⟨⟨_, Go.Proofs.Tryz.func85, by kernel_rfl⟩, by kernel_rfl⟩
def q.a4 : SF8 := ⟨2, 40, [(y04, none)], fun _ N => (mK (cA (.str [])) w04 (mK y00 w10 (oK (iGen 2 (.bytesOf (.t 8))) w11 (mK y11 w05 (seqC (mK y05 w12 (oK (zfm y12) w13 (mK (cI 0) w14 (zaY 0 (run8 (oK (iLss y14 y13) w15 (seqC (zap y15 zak (zeV 0)) (seqC (zaY 1 (mK y14 w16 (mK y16 w06 (mK y01 w17 (mK y06 w20 (oK (iBin .mul (cI 8) y20) w21 (oK (iSub y17 y21) w22 (mK y22 w07 (zaY 2 (mK y07 w24 (oK (iLeq y24 (cI 0)) w25 (mK y25 w23 (zap y23 (mK y05 w26 (mK y06 w27 (oK (iIdx 1 y26 y27) w30 (oK (zbV 1 y30 (cA (.int .u8 0))) P0 zak)))) (mK y07 w32 (oK (iLss y32 (cI 8)) (P2 p3 p3) (oK (iMov (G2 c3 c3)) w31 (zap y31 (oK (iMov y05) (P2 p3 p4) (oK (iMov y06) (P2 p3 p5) (oK (iIdx 1 y34 y35) (P2 p3 p6) (oK (za2 (G2 c3 c6)) (P2 p3 p7) (oK (iMov y07) (P2 p4 p0) (oK (iSub (cI 8) (G2 c4 c0)) (P2 p4 p1) (oK (iBin .shl (cA (.int .u8 255)) y41) (P2 p4 p2) (oK (iBin .and (G2 c3 c7) (G2 c4 c2)) (P2 p4 p3) (oK (iIdx 1 y34 y35) (P2 p4 p4) (oK (zbV 1 (G2 c4 c4) (G2 c4 c3)) P0 zak)))))))))) zak))))))))))))))))) (oK (iAdd y14 (cI 1)) (P2 p4 p5) (mK y45 w14 zak))))) N))))) (oK (iMov y05) (P2 p4 p6) (oK (iGen 2 (.strOf (.t 38))) (P2 p4 p7) (oK (iMov (G2 c4 c7)) w04 retC))))))))⟩
theorem q.a4o : Tab8 Tryz.prog 86 q.a4 := ⟨⟨_, Go.Proofs.Tryz.func86, by kernel_rfl⟩, by kernel_rfl⟩
def q.a5 : SF8 := ⟨1, 8, [((G1 c4), none)], fun cf _ => (mK (cA .nilsl) w4 (oK (iMov (G1 c0)) (P1 p5) (oK (iMov (G1 c1)) (P1 p6) (sK (zaN cf 125 [(G1 c5), (G1 c6), (cI 0), (cA (.int .i64 (-1)))]) (P1 p7) (oK (iMov (G1 c7)) w4 retC)))))⟩
theorem q.a5o : Tab8 Tryz.prog 100 q.a5 := ⟨⟨_, Go.Proofs.Tryz.func100, by kernel_rfl⟩, by kernel_rfl⟩
def q.a6 : SF8 := ⟨1, 6, [((G1 c2), none)], fun _ _ => (oK (iMov (cA (.str []))) (P1 p2) (oK (zej [(.str []), (.str []), (.str []), (.str []), (.str []), (.str [])] [(0, 1, (cA (.str []))), (1, 1, (cA (.str [118, 52]))), (2, 1, (cA (.str [118, 54]))), (3, 1, (cA (.str [108, 52]))), (4, 1, (cA (.str [118, 112, 110, 52]))), (5, 1, (cA (.str [118, 112, 110, 54])))]) (P1 p3) (oK (iMov (G1 c0)) w4 (oK (iGen 1 (.indexArr false 6 1 (.t 3) (.t 4))) (P1 p5) (oK (iMov (G1 c5)) (P1 p2) retC)))))⟩
theorem q.a6o : Tab8 Tryz.prog 101 q.a6 := ⟨⟨_, Go.Proofs.Tryz.func101, by kernel_rfl⟩, by kernel_rfl⟩
def q.a7 : SF8 := ⟨2, 27, [(y06, none), (y07, none)], fun cf _ => (mK (cA (.int .u64 0)) w06 (mK (cA (.bool false)) w07 (mK y00 w13 (mK y01 w14 (mK y02 w15 (sK (zaN cf 126 [y13, y14, y15]) w16 (mK y16 w12 (oK (zav y12 0) w17 (oK (zav y12 1) w20 (mK y17 w10 (mK y20 w11 (mK y10 w21 (mK y11 w22 (oK (iEq false .iface y22 (cA .niliface)) w23 (mK y23 w24 (gT y24 (iMov y10) w25 (gT y24 (iMov y01) w26 (gK y24 true (zaN cf 127 [y25, y26]) w27 (gT y24 (iMov y00) w30 (gT y24 (iEql y27 y30) w31 (oK (za7 y24 y31 (cA (.bool false))) w32 (mK y21 w06 (mK y32 w07 retC)))))))))))))))))))))))⟩
theorem q.a7o : Tab8 Tryz.prog 102 q.a7 := ⟨⟨_, Go.Proofs.Tryz.func102, by kernel_rfl⟩, by kernel_rfl⟩
def q.a8 : SF8 := ⟨2, 13, [(y04, none), (y05, none), (y06, none)], fun cf _ => (mK (cA (.str [])) w04 (mK (cA (.str [])) w05 (mK (cA (.bool false)) w06 (mK y00 w07 (mK y01 w10 (sK (zaN cf 128 [y07, y10]) w11 (oK (zav y11 0) w12 (oK (zav y11 1) w13 (oK (zav y11 2) w14 (mK y12 w04 (mK y13 w05 (mK y14 w06 retC))))))))))))⟩
theorem q.a8o : Tab8 Tryz.prog 103 q.a8 := ⟨⟨_, Go.Proofs.Tryz.func103, by kernel_rfl⟩, by kernel_rfl⟩
def q.a9 : SF8 := ⟨3, 70, [(y002, none), (y003, none)], fun cf N => (mK (cA (.str [])) w002 (mK (cI 0) w003 (mK (cA .nilsl) w004 (seqC (mK y000 w017 (sK (zaN cf 100 [y017, (cA (.str [46]))]) w020 (oK (iMov y020) (P3 p0 p0 p5) (mK y005 w021 (oK (zfm y021) w022 (oK (iEql y022 (cI 4)) w023 (zap y023 (seqC (mK y005 w024 (oK (zfm y024) w025 (mK (cI 0) w026 (zaY 0 (run8 (oK (iLss y026 y025) w027 (seqC (zap y027 zak (zeV 0)) (seqC (zaY 1 (oK (iIdx 1 y024 y026) w030 (oK (za2 y030) w031 (oK (iMov (G3 c0 c3 c1)) w007 (oK (iMov (G3 c0 c0 c7)) w033 (sK (zaN cf 102 [y033, (cI 10), (cI 8)]) w034 (mK y034 w032 (oK (zav y032 0) w035 (oK (zav y032 1) w036 (mK y035 w010 (oK (iMov (G3 c0 c3 c6)) w011 (seqC (mK y011 w037 (oK (iUn .not y037) w040 (zap y040 (mK (cA (.str [])) w002 (mK (cI 4) w003 retC)) zak))) (mK y004 w041 (mK y010 w042 (oK (zd9 .u8 y042) w043 (oK (zeu 1 1 [(.int .u8 0)] [(0, y043)]) w044 (oK (zgl 1 1 y041 y044) w045 (mK y045 w004 zak)))))))))))))))))) (oK (iAdd y026 (cI 1)) w046 (mK y046 w026 zak))))) N))))) (mK y004 w047 (oK (iGen 3 (.strOf (.t 39))) w050 (mK y050 w002 (mK (cI 0) w003 retC))))) zak))))))) (mK y000 w051 (sK (zaN cf 100 [y051, (cA (.str [58]))]) w052 (mK y052 w012 (seqC (mK y012 w053 (oK (zfm y053) w054 (oK (iNeq y054 (cI 8)) w055 (zap y055 (mK (cA (.str [])) w002 (mK (cI 4) w003 retC)) zak)))) (seqC (mK y012 w056 (oK (zfm y056) w057 (mK (cI 0) w060 (zaY 2 (run8 (oK (iLss y060 y057) w061 (seqC (zap y061 zak (zeV 2)) (seqC (zaY 3 (oK (iIdx 1 y056 y060) w062 (oK (za2 y062) w063 (mK y063 w014 (mK y014 w065 (sK (zaN cf 102 [y065, (cI 16), (cI 16)]) w066 (mK y066 w064 (oK (zav y064 0) w067 (oK (zav y064 1) w070 (mK y067 w015 (oK (iMov y070) (P3 p0 p1 p6) (seqC (oK (iMov (G3 c0 c1 c6)) w071 (oK (iUn .not y071) w072 (zap y072 (mK (cA (.str [])) w002 (mK (cI 4) w003 retC)) zak))) (mK y004 w073 (mK y015 w074 (oK (iBin .shr y074 (cA (.int .u64 8))) w075 (oK (zd9 .u8 y075) w076 (mK y015 w077 (oK (zd9 .u8 y077) w100 (oK (zeu 1 2 [(.int .u8 0)] [(0, y076), (1, y100)]) w101 (oK (zgl 1 1 y073 y101) (P3 p1 p0 p2) (oK (iMov (G3 c1 c0 c2)) w004 zak))))))))))))))))))))) (oK (iAdd y060 (cI 1)) (P3 p1 p0 p3) (mK y103 w060 zak))))) N))))) (oK (iMov y004) (P3 p1 p0 p4) (oK (iGen 3 (.strOf (.t 68))) (P3 p1 p0 p5) (oK (iMov (G3 c1 c0 c5)) w002 (mK (cI 0) w003 retC)))))))))))))⟩
theorem q.a9o : Tab8 Tryz.prog 104 q.a9 := ⟨⟨_, Go.Proofs.Tryz.func104, by kernel_rfl⟩, by kernel_rfl⟩
def q.a10 : SF8 := ⟨3, 66, [(y010, none)], fun cf N => (mK (cA .nilsl) w010 (seqC (mK y003 w014 (oK (iEql y014 (cI 0)) w015 (zap y015 (mK (cA .nilsl) w010 retC) zak))) (seqC (oK (iMov y001) (P3 p0 p1 p6) (oK (iEql (G3 c0 c1 c6) (cA (.str []))) w017 (zap y017 (mK y000 w020 (mK y003 w021 (sK (zaN cf 151 [y020, y021]) w022 (mK y022 w010 retC)))) zak))) (seqC (mK y003 w023 (oK (iLss y023 (cI 0)) w024 (zap y024 (mK y000 w025 (mK y001 w026 (sK (zaN cf 152 [y025, y026]) w027 (oK (iAdd y027 (cI 1)) w030 (mK y030 w003 zak))))) zak))) (mK y003 w031 (mK y000 w032 (oK (zdk y032) w033 (oK (iAdd y033 (cI 1)) w034 (oK (iGen 3 (.minmax false (.t 25) [(.t 28)])) w035 (mK y035 w003 (mK y003 w036 (oK (iGen 3 (.makeSlice 1 16 [(.str [])] (.t 30) (.t 30))) w037 (mK y037 w011 (mK y003 w040 (oK (iSub y040 (cI 1)) w041 (mK y041 w003 (mK (cI 0) w012 (seqC (zaY 0 (run8 (seqC (mK y012 w042 (mK y003 w043 (oK (iLss y042 y043) w044 (zap y044 zak (zeV 0))))) (zaY 1 (mK y000 w045 (mK y001 w046 (sK (zaN cf 153 [y045, y046]) w047 (oK (iMov (G3 c0 c4 c7)) (P3 p0 p1 p3) (seqC (mK y013 w050 (oK (iLss y050 (cI 0)) w051 (zap y051 (zeV 0) zak))) (mK y011 w052 (mK y012 w053 (mK y000 w054 (mK y013 w055 (mK y002 w056 (oK (iAdd y055 y056) w057 (oK (zbJ y054 none (some y057)) w060 (oK (iIdx 1 y052 y053) w061 (oK (zbV 1 y061 y060) P0 (mK y000 w062 (mK y013 w063 (mK y001 w064 (oK (zdk y064) w065 (oK (iAdd y063 y065) w066 (oK (zbJ y062 (some y066) none) w067 (mK y067 w000 (mK y012 w070 (oK (iAdd y070 (cI 1)) w071 (mK y071 w012 zak)))))))))))))))))))))))))) N)) (mK y011 w072 (mK y012 w073 (mK y000 w074 (oK (iIdx 1 y072 y073) w075 (oK (zbV 1 y075 y074) P0 (mK y011 w076 (mK y012 w077 (oK (iAdd y077 (cI 1)) w100 (oK (znF 1 y076 y100) w101 (mK y101 w010 retC))))))))))))))))))))))))))))⟩
theorem q.a10o : Tab8 Tryz.prog 125 q.a10 := ⟨⟨_, Go.Proofs.Tryz.func125, by kernel_rfl⟩, by kernel_rfl⟩
def q.a11 : SF8 := ⟨2, 26, [(y06, none), (y07, none)], fun cf _ => (mK (cA (.int .u64 0)) w06 (mK (cA .niliface) w07 (mK y00 w13 (mK y01 w14 (mK y02 w15 (sK (zaN cf 154 [y13, y14, y15]) w16 (mK y16 w12 (oK (zav y12 0) w17 (oK (zav y12 1) w20 (mK y17 w10 (mK y20 w11 (seqC (mK y11 w21 (oK (iEq true .iface y21 (cA .niliface)) w22 (zap y22 (mK y10 w23 (mK y00 w24 (mK y01 w25 (mK y02 w26 (mK y11 w27 (sK (zaN cf 155 [(cA (.str [80, 97, 114, 115, 101, 85, 105, 110, 116])), y24, y25, y26, y27]) w30 (mK y23 w06 (mK y30 w07 retC)))))))) zak))) (mK y10 w31 (mK y31 w06 (mK (cA .niliface) w07 retC)))))))))))))))⟩
theorem q.a11o : Tab8 Tryz.prog 126 q.a11 := ⟨⟨_, Go.Proofs.Tryz.func126, by kernel_rfl⟩, by kernel_rfl⟩
def q.a12 : SF8 := ⟨1, 8, [((G1 c4), none)], fun cf _ => (mK (cA (.str [])) w4 (oK (iMov (G1 c0)) (P1 p5) (oK (iMov (G1 c1)) (P1 p6) (sK (zaN cf 156 [(G1 c5), (G1 c6)]) (P1 p7) (oK (iMov (G1 c7)) w4 retC)))))⟩
theorem q.a12o : Tab8 Tryz.prog 127 q.a12 := ⟨⟨_, Go.Proofs.Tryz.func127, by kernel_rfl⟩, by kernel_rfl⟩
def q.a13 : SF8 := ⟨2, 23, [(y04, none), (y05, none), (y06, none)], fun cf _ => (mK (cA (.str [])) w04 (mK (cA (.str [])) w05 (mK (cA (.bool false)) w06 (seqC (mK y00 w10 (mK y01 w11 (sK (zaN cf 157 [y10, y11]) w12 (mK y12 w07 (mK y07 w13 (oK (iGeq y13 (cI 0)) w14 (zap y14 (mK y00 w15 (mK y07 w16 (oK (zbJ y15 none (some y16)) w17 (mK y00 w20 (mK y07 w21 (mK y01 w22 (oK (zdk y22) w23 (oK (iAdd y21 y23) w24 (oK (zbJ y20 (some y24) none) w25 (mK y17 w04 (mK y25 w05 (mK (cA (.bool true)) w06 retC)))))))))))) zak))))))) (mK y00 w26 (mK y26 w04 (mK (cA (.str [])) w05 (mK (cA (.bool false)) w06 retC))))))))⟩
theorem q.a13o : Tab8 Tryz.prog 128 q.a13 := ⟨⟨_, Go.Proofs.Tryz.func128, by kernel_rfl⟩, by kernel_rfl⟩
def q.a14 : SF8 := ⟨2, 34, [(y04, none)], fun cf N => (mK (cI 0) w04 (seqC (mK y01 w07 (oK (zdk y07) w10 (oK (iEql y10 (cI 0)) w11 (zap y11 (mK y00 w12 (sK (zaN cf 164 [y12]) w13 (oK (iAdd y13 (cI 1)) w14 (mK y14 w04 retC)))) zak)))) (seqC (mK y01 w15 (oK (zdk y15) w16 (oK (iEql y16 (cI 1)) w17 (zap y17 (mK y00 w20 (mK y01 w21 (oK (zbK y21 (cI 0)) w22 (oK (iGen 2 (.ext StIn.count (.t 16) (.t 18))) w23 (mK y23 w04 retC))))) zak)))) (mK (cI 0) w05 (zaY 0 (run8 (zaY 1 (mK y00 w24 (mK y01 w25 (sK (zaN cf 153 [y24, y25]) w26 (mK y26 w06 (seqC (mK y06 w27 (oK (iEql y27 (cA (.int .i64 (-1)))) w30 (zap y30 (mK y05 w31 (mK y31 w04 retC)) zak))) (mK y05 w32 (oK (iAdd y32 (cI 1)) (P2 p3 p3) (oK (iMov (G2 c3 c3)) w05 (oK (iMov y00) (P2 p3 p4) (oK (iMov y06) (P2 p3 p5) (oK (iMov y01) (P2 p3 p6) (oK (zdk (G2 c3 c6)) (P2 p3 p7) (oK (iAdd y35 (G2 c3 c7)) (P2 p4 p0) (oK (zbJ y34 (some (G2 c4 c0)) none) (P2 p4 p1) (oK (iMov y41) (P2 p0 p0) zak)))))))))))))))) N))))))⟩
theorem q.a14o : Tab8 Tryz.prog 152 q.a14 := ⟨⟨_, Go.Proofs.Tryz.func152, by kernel_rfl⟩, by kernel_rfl⟩
def q.a15 : SF8 := ⟨1, 8, [((G1 c4), none)], fun cf _ => (mK (cI 0) w4 (oK (iMov (G1 c0)) (P1 p5) (oK (iMov (G1 c1)) (P1 p6) (sK (zaN cf 157 [(G1 c5), (G1 c6)]) (P1 p7) (oK (iMov (G1 c7)) w4 retC)))))⟩
theorem q.a15o : Tab8 Tryz.prog 153 q.a15 := ⟨⟨_, Go.Proofs.Tryz.func153, by kernel_rfl⟩, by kernel_rfl⟩
def q.a16 : SF8 := ⟨3, 172, [(y006, none), ((G3 c0 c0 c7), none)], fun cf N => (mK (cA (.int .u64 0)) w006 (mK (cA .niliface) w007 (seqC (mK y000 w022 (oK (iEql y022 (cA (.str []))) w023 (zap y023 (oK (iGen 3 (.mkIface 213 (.c (.int .i64 2)))) w024 (mK (cA (.int .u64 0)) w006 (mK y024 w007 retC))) zak))) (mK y001 w025 (oK (iEql y025 (cI 0)) w026 (mK y026 w010 (mK y000 w027 (mK y027 w011 (seqC (zaY 0 (mK y001 w032 (oK (iLeq (cI 2) y032) w033 (mK y033 w034 (gT y034 (iMov y001) w035 (gT y034 (iLeq y035 (cI 36)) w036 (oK (za7 y034 (G3 c0 c3 c6) (cA (.bool false))) w037 (mK y037 w031 (zap (G3 c0 c3 c1) zak (mK y001 w041 (oK (iEql y041 (cI 0)) w042 (mK y042 w040 (zap y040 (mK (cI 10) w001 (mK y000 w043 (oK (zbK y043 (cI 0)) w044 (oK (iEql y044 (cA (.int .u8 48))) w045 (zap y045 (zaY 1 (mK y000 w051 (oK (zdk y051) w052 (oK (iGeq y052 (cI 3)) w053 (mK y053 w054 (gT y054 (iMov y000) w055 (gT y054 (zbK y055 (cI 1)) w056 (gK y054 true (zaN cf 167 [y056]) w057 (gK y054 true (opS (iEql y057 (cA (.int .u8 98)))) w060 (oK (za7 y054 y060 (cA (.bool false))) w061 (mK y061 w050 (zap y050 (mK (cI 2) w001 (mK y000 w062 (oK (zbJ y062 (some (cI 2)) none) w063 (mK y063 w000 zak)))) (mK y000 w065 (oK (zdk y065) w066 (oK (iGeq y066 (cI 3)) w067 (mK y067 w070 (gT y070 (iMov y000) w071 (gT y070 (zbK y071 (cI 1)) w072 (gK y070 true (zaN cf 167 [y072]) w073 (gK y070 true (opS (iEql y073 (cA (.int .u8 111)))) w074 (oK (za7 y070 y074 (cA (.bool false))) w075 (mK y075 w064 (zap y064 (mK (cI 8) w001 (mK y000 w076 (oK (zbJ y076 (some (cI 2)) none) w077 (mK y077 w000 zak)))) (mK y000 w101 (oK (zdk y101) (P3 p1 p0 p2) (oK (iGeq (G3 c1 c0 c2) (cI 3)) (P3 p1 p0 p3) (oK (iMov y103) (P3 p1 p0 p4) (gT y104 (iMov y000) (P3 p1 p0 p5) (gT y104 (zbK (G3 c1 c0 c5) (cI 1)) (P3 p1 p0 p6) (gK y104 true (zaN cf 167 [(G3 c1 c0 c6)]) (P3 p1 p0 p7) (gK y104 true (opS (iEql (G3 c1 c0 c7) (cA (.int .u8 120)))) (P3 p1 p1 p0) (oK (za7 y104 (G3 c1 c1 c0) (cA (.bool false))) (P3 p1 p1 p1) (oK (iMov (G3 c1 c1 c1)) w100 (zap y100 (mK (cI 16) w001 (oK (iMov y000) (P3 p1 p1 p2) (oK (zbJ (G3 c1 c1 c2) (some (cI 2)) none) (P3 p1 p1 p3) (oK (iMov (G3 c1 c1 c3)) w000 zak)))) (mK (cI 8) w001 (mK y000 w046 (oK (zbJ y046 (some (cI 1)) none) w047 (oK (iMov (G3 c0 c4 c7)) w000 zak)))))))))))))))))))))))))))))))))))))) zak))))) (oK (iGen 3 (.mkIface 213 (.c (.int .i64 3)))) w030 (mK (cA (.int .u64 0)) w006 (mK y030 w007 retC)))))))))))))))) (seqC (oK (iMov y002) (P3 p1 p1 p4) (oK (iEql (G3 c1 c1 c4) (cI 0)) (P3 p1 p1 p5) (zap (G3 c1 c1 c5) (mK (cI 64) w002 zak) (oK (iMov y002) (P3 p1 p1 p6) (oK (iLss (G3 c1 c1 c6) (cI 0)) (P3 p1 p1 p7) (oK (iMov (G3 c1 c1 c7)) (P3 p1 p2 p0) (gF y120 (iMov y002) (P3 p1 p2 p1) (gF y120 (iGtr (G3 c1 c2 c1) (cI 64)) (P3 p1 p2 p2) (oK (za7 y120 (cA (.bool true)) (G3 c1 c2 c2)) (P3 p1 p2 p3) (zap (G3 c1 c2 c3) (oK (iGen 3 (.mkIface 213 (.c (.int .i64 4)))) (P3 p1 p2 p4) (mK (cA (.int .u64 0)) w006 (mK y124 w007 retC))) zak)))))))))) (mK (cA (.int .u64 0)) w012 (seqC (oK (iMov y001) (P3 p1 p2 p5) (zaY 2 (oK (iEql (G3 c1 c2 c5) (cI 10)) (P3 p1 p3 p3) (oK (iMov (G3 c1 c3 c3)) (P3 p1 p3 p2) (zap (G3 c1 c3 c2) (mK (cA (.int .u64 1844674407370955162)) w012 zak) (oK (iEql (G3 c1 c2 c5) (cI 16)) (P3 p1 p3 p5) (oK (iMov (G3 c1 c3 c5)) (P3 p1 p3 p4) (zap y134 (mK (cA (.int .u64 1152921504606846976)) w012 zak) (oK (iMov y001) (P3 p1 p2 p6) (oK (zd9 .u64 (G3 c1 c2 c6)) (P3 p1 p2 p7) (oK (iBin .quo (cA (.int .u64 18446744073709551615)) (G3 c1 c2 c7)) (P3 p1 p3 p0) (oK (iAdd (G3 c1 c3 c0) (cA (.int .u64 1))) (P3 p1 p3 p1) (oK (iMov (G3 c1 c3 c1)) w012 zak))))))))))))) (oK (iMov y002) (P3 p1 p3 p6) (oK (zd9 .u64 (G3 c1 c3 c6)) (P3 p1 p3 p7) (oK (iBin .shl (cA (.int .u64 1)) (G3 c1 c3 c7)) (P3 p1 p4 p0) (oK (iSub y140 (cA (.int .u64 1))) (P3 p1 p4 p1) (oK (iMov (G3 c1 c4 c1)) (P3 p0 p1 p3) (mK (cA (.bool false)) w014 (mK (cA (.int .u64 0)) w015 (seqC (oK (iMov y000) (P3 p1 p4 p2) (oK (iGen 3 (.bytesOf (.t 98))) (P3 p1 p4 p3) (oK (zfm (G3 c1 c4 c3)) (P3 p1 p4 p4) (oK (iMov (cI 0)) (P3 p1 p4 p5) (zaY 3 (run8 (oK (iLss y145 y144) (P3 p1 p4 p6) (seqC (zap y146 zak (zeV 3)) (seqC (zaY 4 (oK (iIdx 1 (G3 c1 c4 c3) y145) (P3 p1 p4 p7) (oK (za2 (G3 c1 c4 c7)) (P3 p1 p5 p0) (oK (iMov (G3 c1 c5 c0)) w017 (mK (cA (.int .u8 0)) w020 (seqC (zaY 5 (oK (iMov y017) (P3 p1 p5 p3) (oK (iEql (G3 c1 c5 c3) (cA (.int .u8 95))) (P3 p1 p5 p4) (oK (iMov (G3 c1 c5 c4)) (P3 p1 p5 p5) (gK (G3 c1 c5 c5) true (opS (iMov y010)) (P3 p1 p5 p6) (oK (za7 (G3 c1 c5 c5) (G3 c1 c5 c6) (cA (.bool false))) (P3 p1 p5 p7) (oK (iMov (G3 c1 c5 c7)) (P3 p1 p5 p2) (zap (G3 c1 c5 c2) (mK (cA (.bool true)) w014 (zeV 4)) (oK (iMov y017) (P3 p1 p6 p1) (oK (iLeq (cA (.int .u8 48)) (G3 c1 c6 c1)) (P3 p1 p6 p2) (oK (iMov (G3 c1 c6 c2)) (P3 p1 p6 p3) (gK (G3 c1 c6 c3) true (opS (iMov y017)) (P3 p1 p6 p4) (gK (G3 c1 c6 c3) true (opS (iLeq (G3 c1 c6 c4) (cA (.int .u8 57)))) (P3 p1 p6 p5) (oK (za7 (G3 c1 c6 c3) (G3 c1 c6 c5) (cA (.bool false))) (P3 p1 p6 p6) (oK (iMov (G3 c1 c6 c6)) (P3 p1 p6 p0) (zap (G3 c1 c6 c0) (oK (iMov y017) (P3 p1 p6 p7) (oK (iSub (G3 c1 c6 c7) (cA (.int .u8 48))) (P3 p1 p7 p0) (oK (iMov (G3 c1 c7 c0)) w020 zak))) (oK (iMov y017) (P3 p1 p7 p2) (sK (zaN cf 167 [(G3 c1 c7 c2)]) (P3 p1 p7 p3) (oK (iLeq (cA (.int .u8 97)) (G3 c1 c7 c3)) (P3 p1 p7 p4) (oK (iMov (G3 c1 c7 c4)) (P3 p1 p7 p5) (gT y175 (iMov y017) (P3 p1 p7 p6) (gK y175 true (zaN cf 167 [(G3 c1 c7 c6)]) (P3 p1 p7 p7) (gK y175 true (opS (iLeq (G3 c1 c7 c7) (cA (.int .u8 122)))) (P3 p2 p0 p0) (oK (za7 y175 y200 (cA (.bool false))) (P3 p2 p0 p1) (oK (iMov (G3 c2 c0 c1)) (P3 p1 p7 p1) (zap y171 (oK (iMov y017) (P3 p2 p0 p2) (sK (zaN cf 167 [(G3 c2 c0 c2)]) (P3 p2 p0 p3) (oK (iSub (G3 c2 c0 c3) (cA (.int .u8 97))) (P3 p2 p0 p4) (oK (iAdd (G3 c2 c0 c4) (cA (.int .u8 10))) (P3 p2 p0 p5) (oK (iMov (G3 c2 c0 c5)) w020 zak))))) (oK (iGen 3 (.mkIface 213 (.c (.int .i64 2)))) (P3 p1 p5 p1) (mK (cA (.int .u64 0)) w006 (oK (iMov (G3 c1 c5 c1)) w007 retC))))))))))))))))))))))))))))) (seqC (oK (iMov y020) (P3 p2 p0 p6) (oK (iMov y001) (P3 p2 p0 p7) (oK (zd9 .u8 (G3 c2 c0 c7)) (P3 p2 p1 p0) (oK (iGeq (G3 c2 c0 c6) (G3 c2 c1 c0)) (P3 p2 p1 p1) (zap (G3 c2 c1 c1) (oK (iGen 3 (.mkIface 213 (.c (.int .i64 2)))) (P3 p2 p1 p2) (mK (cA (.int .u64 0)) w006 (oK (iMov (G3 c2 c1 c2)) w007 retC))) zak))))) (seqC (oK (iMov y015) (P3 p2 p1 p3) (oK (iMov y012) (P3 p2 p1 p4) (oK (iGeq (G3 c2 c1 c3) (G3 c2 c1 c4)) (P3 p2 p1 p5) (zap (G3 c2 c1 c5) (oK (iMov y013) (P3 p2 p1 p6) (oK (iGen 3 (.mkIface 213 (.c (.int .i64 1)))) (P3 p2 p1 p7) (oK (iMov (G3 c2 c1 c6)) w006 (oK (iMov (G3 c2 c1 c7)) w007 retC)))) zak)))) (oK (iMov y015) (P3 p2 p2 p0) (oK (iMov y001) (P3 p2 p2 p1) (oK (zd9 .u64 (G3 c2 c2 c1)) (P3 p2 p2 p2) (oK (iBin .mul (G3 c2 c2 c0) (G3 c2 c2 c2)) (P3 p2 p2 p3) (oK (iMov (G3 c2 c2 c3)) w015 (oK (iMov y015) (P3 p2 p2 p4) (oK (iMov y020) (P3 p2 p2 p5) (oK (zd9 .u64 (G3 c2 c2 c5)) (P3 p2 p2 p6) (oK (iAdd (G3 c2 c2 c4) (G3 c2 c2 c6)) (P3 p2 p2 p7) (oK (iMov (G3 c2 c2 c7)) w021 (seqC (oK (iMov y021) (P3 p2 p3 p0) (oK (iMov y015) (P3 p2 p3 p1) (oK (iLss (G3 c2 c3 c0) (G3 c2 c3 c1)) (P3 p2 p3 p2) (oK (iMov (G3 c2 c3 c2)) (P3 p2 p3 p3) (gK (G3 c2 c3 c3) false (opS (iMov y021)) (P3 p2 p3 p4) (gK (G3 c2 c3 c3) false (opS (iMov y013)) (P3 p2 p3 p5) (gK (G3 c2 c3 c3) false (opS (iGtr (G3 c2 c3 c4) (G3 c2 c3 c5))) (P3 p2 p3 p6) (oK (za7 (G3 c2 c3 c3) (cA (.bool true)) (G3 c2 c3 c6)) (P3 p2 p3 p7) (zap (G3 c2 c3 c7) (oK (iMov y013) (P3 p2 p4 p0) (oK (iGen 3 (.mkIface 213 (.c (.int .i64 1)))) (P3 p2 p4 p1) (oK (iMov (G3 c2 c4 c0)) w006 (oK (iMov (G3 c2 c4 c1)) w007 retC)))) zak))))))))) (oK (iMov y021) (P3 p2 p4 p2) (oK (iMov (G3 c2 c4 c2)) w015 zak))))))))))))))))))))) (oK (iAdd y145 (cI 1)) (P3 p2 p4 p3) (oK (iMov (G3 c2 c4 c3)) (P3 p1 p4 p5) zak))))) N)))))) (seqC (oK (iMov y014) (P3 p2 p4 p4) (oK (iMov (G3 c2 c4 c4)) (P3 p2 p4 p5) (gK (G3 c2 c4 c5) true (opS (iMov y011)) (P3 p2 p4 p6) (gK (G3 c2 c4 c5) true (zaN cf 168 [(G3 c2 c4 c6)]) (P3 p2 p4 p7) (gK (G3 c2 c4 c5) true (opS (iUn .not (G3 c2 c4 c7))) (P3 p2 p5 p0) (oK (za7 (G3 c2 c4 c5) (G3 c2 c5 c0) (cA (.bool false))) (P3 p2 p5 p1) (zap (G3 c2 c5 c1) (oK (iGen 3 (.mkIface 213 (.c (.int .i64 2)))) (P3 p2 p5 p2) (mK (cA (.int .u64 0)) w006 (oK (iMov (G3 c2 c5 c2)) w007 retC))) zak))))))) (oK (iMov y015) (P3 p2 p5 p3) (oK (iMov (G3 c2 c5 c3)) w006 (mK (cA .niliface) w007 retC))))))))))))))))))))))))⟩
theorem q.a16o : Tab8 Tryz.prog 154 q.a16 := ⟨⟨_, Go.Proofs.Tryz.func154, by kernel_rfl⟩, by kernel_rfl⟩
def q.a17 : SF8 := ⟨2, 32, [(y04, none)], fun cf _ => (mK (cA (.str [])) w04 (seqC (mK y01 w11 (oK (iEql y11 (cI 10)) w12 (zap y12 (seqC (mK y00 w13 (oK (iLss y13 (cA (.int .u64 100))) w14 (zap y14 (mK y00 w15 (oK (zd9 .i64 y15) w16 (sK (zaN cf 173 [y16]) w17 (mK y17 w04 retC)))) zak))) (oK (zgC [(.int .u8 0), (.int .u8 0), (.int .u8 0), (.int .u8 0), (.int .u8 0), (.int .u8 0), (.int .u8 0), (.int .u8 0), (.int .u8 0), (.int .u8 0), (.int .u8 0), (.int .u8 0), (.int .u8 0), (.int .u8 0), (.int .u8 0), (.int .u8 0), (.int .u8 0), (.int .u8 0), (.int .u8 0), (.int .u8 0), (.int .u8 0), (.int .u8 0), (.int .u8 0), (.int .u8 0)] 24) w05 (mK y00 w20 (sK (zaN cf 174 [y20]) w21 (mK y21 w06 (mK y06 w22 (oK (iGen 2 (.sliceArr 24 1 (.t 5) none (some (.t 18)) none)) w23 (mK y00 w24 (sK (zaN cf 175 [y23, y24]) w25 (mK y06 w26 (oK (iGen 2 (.sliceArr 24 1 (.t 5) none (some (.t 22)) none)) w27 (oK (iGen 2 (.strOf (.t 23))) w30 (mK y30 w04 retC))))))))))))) zak))) (mK y00 w32 (oK (iMov y01) (P2 p3 p3) (sK (zaN cf 176 [(cA .nilsl), y32, (G2 c3 c3), (cA (.bool false)), (cA (.bool false))]) (P2 p3 p4) (mK y34 w31 (oK (zav y31 0) (P2 p3 p5) (oK (zav y31 1) (P2 p3 p6) (mK y35 w07 (oK (iMov (G2 c3 c6)) w10 (oK (iMov y10) (P2 p3 p7) (oK (iMov (G2 c3 c7)) w04 retC))))))))))))⟩
theorem q.a17o : Tab8 Tryz.prog 156 q.a17 := ⟨⟨_, Go.Proofs.Tryz.func156, by kernel_rfl⟩, by kernel_rfl⟩
def q.a18 : SF8 := ⟨3, 143, [(y004, none)], fun cf N => (mK (cI 0) w004 (oK (iMov y001) (P3 p0 p1 p6) (oK (zdk (G3 c0 c1 c6)) w017 (oK (iMov y017) (P3 p0 p0 p5) (seqC (zaY 0 (mK y005 w021 (oK (iEql y021 (cI 0)) w022 (mK y022 w023 (gF y023 (iMov y001) w024 (gF y023 (iMov y000) w025 (gF y023 (iEql y024 y025) w026 (oK (za7 y023 (cA (.bool true)) y026) w027 (mK y027 w020 (zap y020 (mK (cI 0) w004 retC) (mK y005 w031 (oK (iEql (G3 c0 c3 c1) (cI 1)) w032 (mK y032 w030 (zap y030 (mK y000 w033 (mK y001 w034 (oK (zbK y034 (cI 0)) w035 (sK (zaN cf 177 [y033, y035]) w036 (oK (iMov (G3 c0 c3 c6)) w004 retC))))) (mK y005 w040 (mK y000 w041 (oK (zdk y041) w042 (oK (iGeq y040 y042) w043 (mK y043 w037 (zap y037 (oK (iMov (cA (.int .i64 (-1)))) w004 retC) (mK y005 w045 (oK (za2 (cA (.gp 0 0))) w046 (oK (iLeq y045 y046) w047 (oK (iMov (G3 c0 c4 c7)) w050 (gT y050 (iMov y000) w051 (gT y050 (zdk y051) w052 (gT y050 (iLeq y052 (cI 64)) w053 (oK (za7 y050 y053 (cA (.bool false))) w054 (mK y054 w044 (zap y044 (mK y000 w055 (mK y001 w056 (sK (zaN cf 178 [y055, y056]) w057 (mK y057 w004 retC)))) zak)))))))))))))))))))))))))))))) (mK y001 w060 (oK (zbK y060 (cI 0)) w061 (mK y061 w006 (mK y001 w062 (oK (zbK y062 (cI 1)) w063 (mK y063 w007 (mK (cI 0) w010 (mK y000 w064 (oK (zdk y064) w065 (mK y005 w066 (oK (iSub y065 y066) w067 (oK (iAdd y067 (cI 1)) w070 (mK y070 w011 (mK (cI 0) w012 (seqC (zaY 1 (run8 (seqC (mK y010 w071 (mK y011 w072 (oK (iLss y071 y072) w073 (zap y073 zak (zeV 1))))) (zaY 2 (seqC (mK y000 w074 (mK y010 w075 (oK (zbK y074 y075) w076 (mK y006 w077 (oK (iNeq y076 y077) w100 (zap y100 (mK y000 w101 (oK (iMov y010) (P3 p1 p0 p2) (oK (iAdd (G3 c1 c0 c2) (cI 1)) (P3 p1 p0 p3) (oK (iMov y011) (P3 p1 p0 p4) (oK (zbJ y101 (some y103) (some y104)) (P3 p1 p0 p5) (oK (iMov y006) (P3 p1 p0 p6) (sK (zaN cf 177 [(G3 c1 c0 c5), (G3 c1 c0 c6)]) (P3 p1 p0 p7) (oK (iMov (G3 c1 c0 c7)) (P3 p0 p1 p3) (seqC (oK (iMov y013) (P3 p1 p1 p0) (oK (iLss (G3 c1 c1 c0) (cI 0)) (P3 p1 p1 p1) (zap (G3 c1 c1 c1) (oK (iMov (cA (.int .i64 (-1)))) w004 retC) zak))) (oK (iMov y010) (P3 p1 p1 p2) (oK (iMov y013) (P3 p1 p1 p3) (oK (iAdd (G3 c1 c1 c3) (cI 1)) (P3 p1 p1 p4) (oK (iAdd (G3 c1 c1 c2) (G3 c1 c1 c4)) (P3 p1 p1 p5) (oK (iMov (G3 c1 c1 c5)) w010 zak)))))))))))))) zak)))))) (seqC (oK (iMov y000) (P3 p1 p1 p6) (oK (iMov y010) (P3 p1 p1 p7) (oK (iAdd (G3 c1 c1 c7) (cI 1)) (P3 p1 p2 p0) (oK (zbK (G3 c1 c1 c6) y120) (P3 p1 p2 p1) (oK (iMov (G3 c0 c0 c7)) (P3 p1 p2 p2) (oK (iEql (G3 c1 c2 c1) (G3 c1 c2 c2)) (P3 p1 p2 p3) (oK (iMov (G3 c1 c2 c3)) (P3 p1 p2 p4) (gT y124 (iMov y000) (P3 p1 p2 p5) (gT y124 (iMov y010) (P3 p1 p2 p6) (gT y124 (iMov y010) (P3 p1 p2 p7) (gT y124 (iMov y005) (P3 p1 p3 p0) (gT y124 (iAdd (G3 c1 c2 c7) (G3 c1 c3 c0)) (P3 p1 p3 p1) (gK y124 true (opS (zbJ (G3 c1 c2 c5) (some (G3 c1 c2 c6)) (some (G3 c1 c3 c1)))) (P3 p1 p3 p2) (gT y124 (iMov y001) (P3 p1 p3 p3) (gT y124 (iEql (G3 c1 c3 c2) (G3 c1 c3 c3)) (P3 p1 p3 p4) (oK (za7 y124 y134 (cA (.bool false))) (P3 p1 p3 p5) (zap (G3 c1 c3 c5) (oK (iMov y010) (P3 p1 p3 p6) (oK (iMov (G3 c1 c3 c6)) w004 retC)) zak))))))))))))))))) (oK (iMov y010) (P3 p1 p3 p7) (oK (iAdd (G3 c1 c3 c7) (cI 1)) (P3 p1 p4 p0) (mK y140 w010 (oK (iMov y012) (P3 p1 p4 p1) (oK (iAdd (G3 c1 c4 c1) (cI 1)) (P3 p1 p4 p2) (oK (iMov (G3 c1 c4 c2)) w012 (oK (iMov y005) (P3 p1 p4 p3) (oK (za2 (cA (.gp 0 0))) (P3 p1 p4 p4) (oK (iLeq (G3 c1 c4 c3) y144) (P3 p1 p4 p5) (oK (iMov y145) (P3 p1 p4 p6) (gT y146 (iMov y012) (P3 p1 p4 p7) (gT y146 (iMov y010) (P3 p1 p5 p0) (gK y146 true (zaN cf 179 [(G3 c1 c5 c0)]) (P3 p1 p5 p1) (gT y146 (iGtr (G3 c1 c4 c7) (G3 c1 c5 c1)) (P3 p1 p5 p2) (oK (za7 y146 (G3 c1 c5 c2) (cA (.bool false))) (P3 p1 p5 p3) (zap (G3 c1 c5 c3) (oK (iMov y000) (P3 p1 p5 p4) (oK (iMov y010) (P3 p1 p5 p5) (oK (zbJ (G3 c1 c5 c4) (some (G3 c1 c5 c5)) none) (P3 p1 p5 p6) (oK (iMov y001) (P3 p1 p5 p7) (sK (zaN cf 178 [(G3 c1 c5 c6), (G3 c1 c5 c7)]) (P3 p1 p6 p0) (oK (iMov (G3 c1 c6 c0)) w014 (seqC (oK (iMov y014) (P3 p1 p6 p1) (oK (iGeq (G3 c1 c6 c1) (cI 0)) (P3 p1 p6 p2) (zap (G3 c1 c6 c2) (oK (iMov y014) (P3 p1 p6 p3) (oK (iMov y010) (P3 p1 p6 p4) (oK (iAdd (G3 c1 c6 c3) (G3 c1 c6 c4)) (P3 p1 p6 p5) (oK (iMov (G3 c1 c6 c5)) w004 retC)))) zak))) (oK (iMov (cA (.int .i64 (-1)))) w004 retC)))))))) (oK (iMov y005) (P3 p1 p6 p6) (oK (za2 (cA (.gp 0 0))) (P3 p1 p6 p7) (oK (iGtr (G3 c1 c6 c6) (G3 c1 c6 c7)) (P3 p1 p7 p0) (oK (iMov (G3 c1 c7 c0)) (P3 p1 p7 p1) (gT y171 (iMov y012) (P3 p1 p7 p2) (gT y171 (iMov y010) (P3 p1 p7 p3) (gK y171 true (opS (iBin .shr (G3 c1 c7 c3) (cA (.int .u64 4)))) (P3 p1 p7 p4) (gT y171 (iAdd (cI 4) (G3 c1 c7 c4)) (P3 p1 p7 p5) (gT y171 (iGeq (G3 c1 c7 c2) y175) (P3 p1 p7 p6) (oK (za7 y171 (G3 c1 c7 c6) (cA (.bool false))) (P3 p1 p7 p7) (oK (iMov (G3 c1 c7 c7)) (P3 p2 p0 p0) (gT y200 (iMov y010) (P3 p2 p0 p1) (gT y200 (iMov y011) (P3 p2 p0 p2) (gT y200 (iLss (G3 c2 c0 c1) (G3 c2 c0 c2)) (P3 p2 p0 p3) (oK (za7 y200 (G3 c2 c0 c3) (cA (.bool false))) (P3 p2 p0 p4) (zap (G3 c2 c0 c4) (oK (iMov y000) (P3 p2 p0 p5) (oK (iMov y010) (P3 p2 p0 p6) (oK (zbJ (G3 c2 c0 c5) (some (G3 c2 c0 c6)) none) (P3 p2 p0 p7) (oK (iMov y001) (P3 p2 p1 p0) (sK (zaN cf 180 [(G3 c2 c0 c7), (G3 c2 c1 c0)]) (P3 p2 p1 p1) (oK (iMov (G3 c2 c1 c1)) w015 (seqC (oK (iMov y015) (P3 p2 p1 p2) (oK (iLss (G3 c2 c1 c2) (cI 0)) (P3 p2 p1 p3) (zap (G3 c2 c1 c3) (oK (iMov (cA (.int .i64 (-1)))) w004 retC) zak))) (oK (iMov y010) (P3 p2 p1 p4) (oK (iMov y015) (P3 p2 p1 p5) (oK (iAdd (G3 c2 c1 c4) (G3 c2 c1 c5)) (P3 p2 p1 p6) (oK (iMov (G3 c2 c1 c6)) w004 retC))))))))))) zak)))))))))))))))))))))))))))))))))))) N)) (oK (iMov (cA (.int .i64 (-1)))) w004 retC)))))))))))))))))))))⟩
theorem q.a18o : Tab8 Tryz.prog 157 q.a18 := ⟨⟨_, Go.Proofs.Tryz.func157, by kernel_rfl⟩, by kernel_rfl⟩
def q.a19 : SF8 := ⟨2, 15, [(y02, none)], fun _ _ => (mK (cA (.str [])) w02 (seqC (oK (iMov y00) (P2 p0 p3) (oK (iLss y03 (cI 10)) w04 (zap y04 (mK y00 w05 (mK y00 w06 (oK (iAdd y06 (cI 1)) w07 (oK (zbJ (cA (.str [48, 49, 50, 51, 52, 53, 54, 55, 56, 57, 97, 98, 99, 100, 101, 102, 103, 104, 105, 106, 107, 108, 109, 110, 111, 112, 113, 114, 115, 116, 117, 118, 119, 120, 121, 122])) (some y05) (some y07)) w10 (mK y10 w02 retC))))) zak))) (mK y00 w11 (oK (iBin .mul y11 (cI 2)) w12 (mK y00 w13 (oK (iBin .mul y13 (cI 2)) w14 (oK (iAdd y14 (cI 2)) w15 (oK (zbJ (cA (.str [48, 48, 48, 49, 48, 50, 48, 51, 48, 52, 48, 53, 48, 54, 48, 55, 48, 56, 48, 57, 49, 48, 49, 49, 49, 50, 49, 51, 49, 52, 49, 53, 49, 54, 49, 55, 49, 56, 49, 57, 50, 48, 50, 49, 50, 50, 50, 51, 50, 52, 50, 53, 50, 54, 50, 55, 50, 56, 50, 57, 51, 48, 51, 49, 51, 50, 51, 51, 51, 52, 51, 53, 51, 54, 51, 55, 51, 56, 51, 57, 52, 48, 52, 49, 52, 50, 52, 51, 52, 52, 52, 53, 52, 54, 52, 55, 52, 56, 52, 57, 53, 48, 53, 49, 53, 50, 53, 51, 53, 52, 53, 53, 53, 54, 53, 55, 53, 56, 53, 57, 54, 48, 54, 49, 54, 50, 54, 51, 54, 52, 54, 53, 54, 54, 54, 55, 54, 56, 54, 57, 55, 48, 55, 49, 55, 50, 55, 51, 55, 52, 55, 53, 55, 54, 55, 55, 55, 56, 55, 57, 56, 48, 56, 49, 56, 50, 56, 51, 56, 52, 56, 53, 56, 54, 56, 55, 56, 56, 56, 57, 57, 48, 57, 49, 57, 50, 57, 51, 57, 52, 57, 53, 57, 54, 57, 55, 57, 56, 57, 57])) (some y12) (some y15)) w16 (mK y16 w02 retC)))))))))⟩
theorem q.a19o : Tab8 Tryz.prog 173 q.a19 := ⟨⟨_, Go.Proofs.Tryz.func173, by kernel_rfl⟩, by kernel_rfl⟩
def q.a20 : SF8 := ⟨1, 8, [((G1 c4), none)], fun _ _ => (mK (cI 0) w4 (oK (iMov (G1 c0)) (P1 p5) (oK (iMov (G1 c1)) (P1 p6) (oK (iGen 1 (.ext StIn.indexByte (.t 5) (.t 6))) (P1 p7) (oK (iMov (G1 c7)) w4 retC)))))⟩
theorem q.a20o : Tab8 Tryz.prog 177 q.a20 := ⟨⟨_, Go.Proofs.Tryz.func177, by kernel_rfl⟩, by kernel_rfl⟩
end Go.Am.Fr
