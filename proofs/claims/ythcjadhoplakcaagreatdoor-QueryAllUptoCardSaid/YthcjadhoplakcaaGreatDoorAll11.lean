/- The law QueryAll of package grommetlaw24 answers true and turns no argument, for all arguments that are together of bulk at most 1048576; condition: the listed package variables start as the program's text lays them. (part 11.) -/
import Derived.Test.YthcjadhoplakcaaGreatDoorAll10
import Derived.Test.YthcjadhoplakcaaGreatDoorProg
import Derived.KernelRfl
set_option linter.unusedSimpArgs false
set_option linter.unusedVariables false
namespace Go.Eng.Tryz
open Go.Eng
def S137 : S :=
(.seq (.reg [.s 4 (.mv (.c (.bool false)))] [0,1])
(.seq (.seq (.reg [.s 7 (.mv (.t 0))] [0,1,7])
(.block 0 (.seq (.seq (.reg [.s 9 (.bin .eql .base (.t 7) (.c (.int .i64 2))),
.s 8 (.mv (.t 9))] [0,1,7,8])
(.cond (.t 8)
.skip
(.reg [.s 10 (.bin .eql .base (.t 7) (.c (.int .i64 3))),
.s 8 (.mv (.t 10))] [0,1,7,8])))
(.cond (.t 8)
(.seq (.reg [.s 11 (.mv (.t 1)),
.s 12 (.call 176 [(.t 11)]),
.s 13 (.mv (.t 0)),
.s 14 (.bin .eql .base (.t 12) (.t 13)),
.s 4 (.mv (.t 14))] [4])
.ret)
(.seq (.reg [.s 16 (.bin .eql .base (.t 7) (.c (.int .i64 4))),
.s 15 (.mv (.t 16))] [1,15])
(.cond (.t 15)
(.seq (.reg [.s 18 (.mv (.t 1)),
.s 19 (.call 177 [(.t 18)]),
.s 17 (.mv (.t 19)),
.s 20 (.ext (.t 17) 0),
.s 21 (.ext (.t 17) 1),
.s 6 (.new [(.int .i64 0),(.int .i64 0)] 81),
.s 5 (.mv (.t 20)),
.n (.st 2 (.t 6) (.t 21))] [6])
(.seq (.reg [.s 22 (.ld 2 true (.t 6)),
.s 23 (.bld [(.int .i64 0),(.int .i64 0)] []),
.s 24 (.bin .eql (.agg [.int,.int]) (.t 22) (.t 23)),
.s 4 (.mv (.t 24))] [4])
.ret))
.skip))))))
(.seq (.reg [.s 25 (.mv (.t 1)),
.s 26 (.bin .eql .base (.t 25) (.c (.str []))),
.s 4 (.mv (.t 26))] [4])
.ret)))
theorem ok137 : FnOk Go.Proofs.Tryz.prog 137 ⟨27, [.t 4], S137⟩ :=
  FnOk.of [[0,1],[0,1,7],[0,1,7,8],[0,1,7,8],[4],[1,15],[6],[4],[4]] Go.Proofs.Tryz.func137 (by kernel_rfl) (by kernel_rfl) (by kernel_rfl) (by kernel_rfl) (by kernel_rfl) (by kernel_rfl)
def S138 : S :=
(.seq (.reg [.s 2 (.mv (.c (.bool false)))] [0])
(.seq (.reg [.s 3 (.mv (.t 0)),
.s 4 (.bin .geq .base (.t 3) (.c (.int .i64 1))),
.s 5 (.mv (.t 4)),
.y 6 (.mv (.t 0)) 5,
.y 7 (.bin .leq .base (.t 6) (.c (.int .i64 4))) 5,
.s 8 (.pick (.t 5) (.t 7) (.c (.bool false))),
.s 2 (.mv (.t 8))] [2])
.ret))
theorem ok138 : FnOk Go.Proofs.Tryz.prog 138 ⟨9, [.t 2], S138⟩ :=
  FnOk.of [[0],[2]] Go.Proofs.Tryz.func138 (by kernel_rfl) (by kernel_rfl) (by kernel_rfl) (by kernel_rfl) (by kernel_rfl) (by kernel_rfl)
def S139 : S :=
(.seq (.reg [.s 3 (.mv (.c (.bool false)))] [1,0])
(.seq (.reg [.s 4 (.mv (.t 0)),
.s 5 (.bin .lss .base (.t 4) (.c (.int .i64 0))),
.s 6 (.mv (.t 5)),
.z 7 (.mv (.t 0)) 6,
.z 8 (.fad 0 (.t 1)) 6,
.z 9 (.ld 1 false (.t 8)) 6,
.z 10 (.len 1 (.t 9)) 6,
.z 11 (.bin .geq .base (.t 7) (.t 10)) 6,
.s 12 (.pick (.t 6) (.c (.bool true)) (.t 11)),
.s 3 (.mv (.t 12))] [3])
.ret))
theorem ok139 : FnOk Go.Proofs.Tryz.prog 139 ⟨13, [.t 3], S139⟩ :=
  FnOk.of [[1,0],[3]] Go.Proofs.Tryz.func139 (by kernel_rfl) (by kernel_rfl) (by kernel_rfl) (by kernel_rfl) (by kernel_rfl) (by kernel_rfl)
def S140 : S :=
(.seq (.reg [.s 3 (.box 2 240 (.t 1)),
.s 4 (.mv (.c (.bool false)))] [3,0])
(.seq (.reg [.s 6 (.mv (.t 0)),
.s 7 (.ld 2 true (.t 3)),
.s 8 (.lk (.many [.int,.str]) (.bool false) false (.t 6) (.t 7)),
.s 5 (.mv (.t 8))] [5,3,0])
(.seq (.reg [.s 9 (.mv (.t 0)),
.s 10 (.ld 2 true (.t 3)),
.n (.up (.many [.int,.str]) (.t 9) (.t 10) (.c (.bool true)))] [5])
(.seq (.reg [.s 11 (.mv (.t 5)),
.s 12 (.un .not (.t 11)),
.s 4 (.mv (.t 12))] [4])
.ret))))
theorem ok140 : FnOk Go.Proofs.Tryz.prog 140 ⟨13, [.t 4], S140⟩ :=
  FnOk.of [[3,0],[5,3,0],[5],[4]] Go.Proofs.Tryz.func140 (by kernel_rfl) (by kernel_rfl) (by kernel_rfl) (by kernel_rfl) (by kernel_rfl) (by kernel_rfl)
def S141 : S :=
(.seq (.reg [.s 4 (.mv (.c (.int .i64 0)))] [0,1])
(.seq (.seq (.reg [.s 6 (.mv (.t 0)),
.s 7 (.len 1 (.t 6)),
.s 8 (.mv (.c (.int .i64 0)))] [8,0,1,7])
(.block 0 (.loop (.seq (.reg [.s 9 (.bin .lss .base (.t 8) (.t 7))] [0,1,7,8,9])
(.seq (.cond (.t 9)
.skip
(.exit 0))
(.seq (.block 1 (.seq (.reg [.s 10 (.mv (.t 8)),
.s 5 (.mv (.t 10))] [5,0,1,7,8])
(.seq (.reg [.s 11 (.mv (.t 1)),
.s 12 (.mv (.t 0)),
.s 13 (.mv (.t 5)),
.s 14 (.iad 1 (.t 12) (.t 13)),
.s 15 (.ld 1 false (.t 14)),
.s 16 (.callv (.t 11) [(.t 15)])] [5,0,1,7,8,16])
(.cond (.t 16)
(.seq (.reg [.s 17 (.mv (.t 5)),
.s 4 (.mv (.t 17))] [4])
.ret)
.skip))))
(.reg [.s 18 (.bin .add .base (.t 8) (.c (.int .i64 1))),
.s 8 (.mv (.t 18))] [8,0,1,7])))))))
(.seq (.reg [.s 4 (.mv (.c (.int .i64 (-1))))] [4])
.ret)))
theorem ok141 : FnOk Go.Proofs.Tryz.prog 141 ⟨19, [.t 4], S141⟩ :=
  FnOk.of [[0,1],[8,0,1,7],[0,1,7,8,9],[5,0,1,7,8],[5,0,1,7,8,16],[4],[8,0,1,7],[4]] Go.Proofs.Tryz.func141 (by kernel_rfl) (by kernel_rfl) (by kernel_rfl) (by kernel_rfl) (by kernel_rfl) (by kernel_rfl)
def S146 : S :=
(.seq (.reg [.s 4 (.mv (.c (.bool false)))] [0,1])
(.seq (.reg [.s 8 (.mv (.t 0)),
.s 9 (.nck (.t 8)),
.s 10 (.fad 1 (.t 9)),
.s 11 (.ld 1 false (.t 10)),
.s 12 (.mv (.t 1)),
.s 13 (.call 181 [(.t 11),(.t 12)]),
.s 7 (.mv (.t 13)),
.s 14 (.ext (.t 7) 0),
.s 15 (.ext (.t 7) 1),
.s 5 (.mv (.t 14)),
.s 6 (.mv (.t 15))] [6,5,0])
(.seq (.reg [.s 16 (.mv (.t 0)),
.s 17 (.mv (.t 5)),
.s 18 (.nck (.t 16)),
.s 19 (.fad 1 (.t 18)),
.n (.st 1 (.t 19) (.t 17))] [6])
(.seq (.reg [.s 20 (.mv (.t 6)),
.s 4 (.mv (.t 20))] [4])
.ret))))
theorem ok146 : FnOk Go.Proofs.Tryz.prog 146 ⟨21, [.t 4], S146⟩ :=
  FnOk.of [[0,1],[6,5,0],[6],[4]] Go.Proofs.Tryz.func146 (by kernel_rfl) (by kernel_rfl) (by kernel_rfl) (by kernel_rfl) (by kernel_rfl) (by kernel_rfl)
def S147 : S :=
(.seq (.reg [.s 4 (.new [(.int .i64 0),(.str []),(.str []),(.int .i64 0)] 45)] [4,0,1])
(.seq (.reg [.s 8 (.bld [(.int .i64 0),(.str []),(.str []),(.int .i64 0)] [(0,1,(.c (.int .i64 6)))]),
.s 5 (.new [(.int .i64 0),(.str []),(.str []),(.int .i64 0)] 45),
.n (.st 4 (.t 5) (.t 8))] [4,5,0,1])
(.seq (.seq (.reg [.s 9 (.mv (.t 0)),
.s 10 (.call 182 [(.t 9),(.c (.str [48,49,50,51,52,53,54,55,56,57]))]),
.s 6 (.mv (.t 10))] [4,5,0,6,1])
(.seq (.reg [.s 11 (.mv (.t 6)),
.s 12 (.bin .gtr .base (.t 11) (.c (.int .i64 0)))] [4,5,0,6,1,12])
(.cond (.t 12)
(.seq (.reg [.s 7 (.mv (.c (.int .i64 6)))] [4,5,0,6,7])
(.seq (.seq (.reg [.s 13 (.mv (.t 0)),
.s 14 (.nck (.t 13)),
.s 15 (.fad 1 (.t 14)),
.s 16 (.ld 1 false (.t 15)),
.s 17 (.ixS (.t 16) (.c (.int .i64 0))),
.s 18 (.bin .eql .base (.t 17) (.c (.int .u8 48)))] [4,5,0,6,7,18])
(.cond (.t 18)
(.reg [.s 7 (.mv (.c (.int .i64 1)))] [4,5,0,7,6])
.skip))
(.seq (.seq (.reg [.s 19 (.mv (.t 6)),
.s 20 (.mv (.t 7)),
.s 21 (.bin .gtr .base (.t 19) (.t 20))] [4,5,0,7,6,21])
(.cond (.t 21)
(.reg [.s 22 (.mv (.t 0)),
.s 23 (.mv (.t 7)),
.s 24 (.call 183 [(.t 22),(.t 23)])] [4,5,0,7,6])
.skip))
(.seq (.reg [.s 25 (.fad 0 (.t 5)),
.n (.st 1 (.t 25) (.c (.int .i64 4)))] [4,5,0,7,6])
(.seq (.reg [.s 27 (.mv (.t 0)),
.s 28 (.nck (.t 27)),
.s 29 (.fad 1 (.t 28)),
.s 30 (.ld 1 false (.t 29)),
.s 31 (.mv (.t 6)),
.s 32 (.mv (.t 7)),
.s 33 (.mn [(.t 31),(.t 32)]),
.s 34 (.sS (.t 30) none (some (.t 33))),
.s 35 (.call 184 [(.t 34)]),
.s 26 (.mv (.t 35)),
.s 36 (.ext (.t 26) 0),
.s 37 (.ext (.t 26) 1),
.s 38 (.fad 3 (.t 5)),
.n (.st 1 (.t 38) (.t 36))] [4,5,0,7,6])
(.reg [.s 39 (.mv (.t 0)),
.s 40 (.mv (.t 0)),
.s 41 (.nck (.t 40)),
.s 42 (.fad 1 (.t 41)),
.s 43 (.ld 1 false (.t 42)),
.s 44 (.mv (.t 6)),
.s 45 (.mv (.t 7)),
.s 46 (.mn [(.t 44),(.t 45)]),
.s 47 (.sS (.t 43) (some (.t 46)) none),
.s 48 (.nck (.t 39)),
.s 49 (.fad 1 (.t 48)),
.n (.st 1 (.t 49) (.t 47))] [4,5,0]))))))
(.seq (.reg [.s 50 (.mv (.t 0)),
.s 51 (.call 146 [(.t 50),(.c (.str [42]))])] [4,5,0,1,51])
(.cond (.t 51)
(.reg [.s 52 (.fad 0 (.t 5)),
.n (.st 1 (.t 52) (.c (.int .i64 5)))] [4,5,0])
(.seq (.reg [.s 53 (.mv (.t 0)),
.s 54 (.mv (.t 1)),
.s 55 (.call 149 [(.t 53),(.t 54)]),
.s 56 (.fad 1 (.t 5)),
.n (.st 1 (.t 56) (.t 55))] [4,5,0,1])
(.seq (.reg [.s 57 (.mv (.t 0)),
.s 58 (.call 148 [(.t 57),(.c (.str [61]))])] [4,5,0,1])
(.reg [.s 59 (.mv (.t 0)),
.s 60 (.mv (.t 1)),
.s 61 (.call 149 [(.t 59),(.t 60)]),
.s 62 (.fad 2 (.t 5)),
.n (.st 1 (.t 62) (.t 61))] [4,5,0]))))))))
(.seq (.reg [.s 63 (.mv (.t 0)),
.s 64 (.call 148 [(.t 63),(.c (.str [93]))])] [4,5])
(.seq (.reg [.s 65 (.ld 4 true (.t 5)),
.n (.st 4 (.t 4) (.t 65))] [4])
.ret)))))
theorem ok147 : FnOk Go.Proofs.Tryz.prog 147 ⟨66, [.c 4 4 true], S147⟩ :=
  FnOk.of [[4,0,1],[4,5,0,1],[4,5,0,6,1],[4,5,0,6,1,12],[4,5,0,6,7],[4,5,0,6,7,18],[4,5,0,7,6],[4,5,0,7,6,21],[4,5,0,7,6],[4,5,0,7,6],[4,5,0,7,6],[4,5,0],[4,5,0,1,51],[4,5,0],[4,5,0,1],[4,5,0,1],[4,5,0],[4,5],[4]] Go.Proofs.Tryz.func147 (by kernel_rfl) (by kernel_rfl) (by kernel_rfl) (by kernel_rfl) (by kernel_rfl) (by kernel_rfl)
def S148 : S :=
(.seq (.reg [.s 4 (.mv (.t 0)),
.s 5 (.nck (.t 4)),
.s 6 (.fad 2 (.t 5)),
.s 7 (.ld 2 true (.t 6)),
.s 8 (.bld [(.int .i64 0),(.int .i64 0)] []),
.s 9 (.bin .eql (.agg [.int,.int]) (.t 7) (.t 8)),
.s 10 (.mv (.t 9)),
.y 11 (.mv (.t 0)) 10,
.y 12 (.mv (.t 1)) 10,
.y 13 (.call 146 [(.t 11),(.t 12)]) 10,
.y 14 (.un .not (.t 13)) 10,
.s 15 (.pick (.t 10) (.t 14) (.c (.bool false)))] [0,15])
(.cond (.t 15)
(.reg [.s 16 (.mv (.t 0)),
.s 17 (.call 183 [(.t 16),(.c (.int .i64 0))])] [])
.skip))
theorem ok148 : FnOk Go.Proofs.Tryz.prog 148 ⟨18, [], S148⟩ :=
  FnOk.of [[0,15],[]] Go.Proofs.Tryz.func148 (by kernel_rfl) (by kernel_rfl) (by kernel_rfl) (by kernel_rfl) (by kernel_rfl) (by kernel_rfl)
def S149 : S :=
(.seq (.reg [.s 4 (.mv (.c (.str [])))] [1,0])
(.seq (.seq (.reg [.s 10 (.mv (.t 0)),
.s 11 (.nck (.t 10)),
.s 12 (.fad 2 (.t 11)),
.s 13 (.ld 2 true (.t 12)),
.s 14 (.bld [(.int .i64 0),(.int .i64 0)] []),
.s 15 (.bin .neq (.agg [.int,.int]) (.t 13) (.t 14))] [1,0,15])
(.cond (.t 15)
(.seq (.reg [.s 4 (.mv (.c (.str [])))] [4])
.ret)
.skip))
(.seq (.reg [.s 16 (.mv (.t 0)),
.s 17 (.call 182 [(.t 16),(.c (.str [97,98,99,100,101,102,103,104,105,106,107,108,109,110,111,112,113,114,115,116,117,118,119,120,121,122,65,66,67,68,69,70,71,72,73,74,75,76,77,78,79,80,81,82,83,84,85,86,87,88,89,90,48,49,50,51,52,53,54,55,56,57,45,95]))]),
.s 5 (.mv (.t 17))] [1,0,5])
(.seq (.reg [.s 18 (.mv (.t 0)),
.s 19 (.nck (.t 18)),
.s 20 (.fad 1 (.t 19)),
.s 21 (.ld 1 false (.t 20)),
.s 22 (.mv (.t 5)),
.s 23 (.sS (.t 21) none (some (.t 22))),
.s 6 (.mv (.t 23))] [1,0,6,5])
(.seq (.seq (.reg [.s 24 (.mv (.t 0)),
.s 25 (.nck (.t 24)),
.s 26 (.fad 1 (.t 25)),
.s 27 (.ld 1 false (.t 26)),
.s 28 (.call 185 [(.t 27),(.c (.str [34]))])] [1,0,6,5,28])
(.cond (.t 28)
(.seq (.reg [.s 30 (.mv (.t 0)),
.s 31 (.nck (.t 30)),
.s 32 (.fad 1 (.t 31)),
.s 33 (.ld 1 false (.t 32)),
.s 34 (.call 186 [(.t 33)]),
.s 29 (.mv (.t 34)),
.s 35 (.ext (.t 29) 0),
.s 36 (.ext (.t 29) 1),
.s 37 (.ext (.t 29) 2),
.s 9 (.new [(.int .i64 0),(.int .i64 0)] 81),
.s 7 (.mv (.t 35)),
.s 8 (.mv (.t 36)),
.n (.st 2 (.t 9) (.t 37))] [1,0,8,7,9])
(.seq (.seq (.reg [.s 38 (.ld 2 true (.t 9)),
.s 39 (.bld [(.int .i64 0),(.int .i64 0)] []),
.s 40 (.bin .neq (.agg [.int,.int]) (.t 38) (.t 39))] [1,0,8,7,9,40])
(.cond (.t 40)
(.regD [(0, .s 41 (.mv (.t 0)), 0),
(1, .s 42 (.fad 0 (.t 9)), 0),
(2, .s 43 (.ld 1 false (.t 42)), 2),
(3, .s 44 (.mv (.t 0)), 0),
(5, .s 46 (.fad 1 (.t 9)), 0),
(6, .s 47 (.ld 1 false (.t 46)), 32),
(4, .s 45 (.call 99 [(.t 44)]), 8),
(7, .s 48 (.bin .add .base (.t 45) (.t 47)), 120),
(8, .s 49 (.call 98 [(.t 41),(.t 43),(.t 48)]), 255)] [1,0,8,7])
.skip))
(.reg [.s 50 (.mv (.t 7)),
.s 51 (.mv (.t 8)),
.s 6 (.mv (.t 50)),
.s 5 (.mv (.t 51))] [6,1,0,5])))
(.seq (.reg [.s 52 (.mv (.t 5)),
.s 53 (.bin .eql .base (.t 52) (.c (.int .i64 0)))] [6,1,0,5,53])
(.cond (.t 53)
(.reg [.s 54 (.mv (.t 0)),
.s 55 (.call 183 [(.t 54),(.c (.int .i64 0))])] [6,1,0,5])
.skip))))
(.seq (.reg [.s 56 (.mv (.t 0)),
.s 57 (.mv (.t 0)),
.s 58 (.nck (.t 57)),
.s 59 (.fad 1 (.t 58)),
.s 60 (.ld 1 false (.t 59)),
.s 61 (.mv (.t 5)),
.s 62 (.sS (.t 60) (some (.t 61)) none),
.s 63 (.nck (.t 56)),
.s 64 (.fad 1 (.t 63)),
.n (.st 1 (.t 64) (.t 62))] [6,1,0])
(.seq (.seq (.reg [.s 65 (.mv (.t 6)),
.s 66 (.len 0 (.t 65)),
.s 67 (.bin .gtr .base (.t 66) (.c (.int .i64 256)))] [6,1,0,67])
(.cond (.t 67)
(.reg [.s 68 (.mv (.t 0)),
.s 69 (.mv (.t 1)),
.s 70 (.call 98 [(.t 68),(.c (.int .i64 5)),(.t 69)])] [6])
.skip))
(.seq (.reg [.s 71 (.mv (.t 6)),
.s 4 (.mv (.t 71))] [4])
.ret))))))))
theorem ok149 : FnOk Go.Proofs.Tryz.prog 149 ⟨72, [.t 4], S149⟩ :=
  FnOk.of [[1,0],[1,0,15],[4],[1,0,5],[1,0,6,5],[1,0,6,5,28],[1,0,8,7,9],[1,0,8,7,9,40],[1,0,8,7],[6,1,0,5],[6,1,0,5,53],[6,1,0,5],[6,1,0],[6,1,0,67],[6],[4]] Go.Proofs.Tryz.func149 (by kernel_rfl) (by kernel_rfl) (by kernel_rfl) (by kernel_rfl) (by kernel_rfl) (by kernel_rfl)
def S150 : S :=
(.seq (.reg [.s 4 (.mv (.c (.int .i64 0)))] [0,1])
(.seq (.seq (.reg [.s 6 (.mv (.t 0)),
.s 7 (.len 1 (.t 6)),
.s 8 (.mv (.c (.int .i64 0)))] [8,0,1,7])
(.block 0 (.loop (.seq (.reg [.s 9 (.bin .lss .base (.t 8) (.t 7))] [0,1,7,8,9])
(.seq (.cond (.t 9)
.skip
(.exit 0))
(.seq (.block 1 (.seq (.reg [.s 10 (.mv (.t 8)),
.s 5 (.mv (.t 10))] [5,0,1,7,8])
(.seq (.reg [.s 11 (.mv (.t 1)),
.s 12 (.mv (.t 0)),
.s 13 (.mv (.t 5)),
.s 14 (.iad 4 (.t 12) (.t 13)),
.s 15 (.ld 4 true (.t 14)),
.s 16 (.callv (.t 11) [(.t 15)])] [5,0,1,7,8,16])
(.cond (.t 16)
(.seq (.reg [.s 17 (.mv (.t 5)),
.s 4 (.mv (.t 17))] [4])
.ret)
.skip))))
(.reg [.s 18 (.bin .add .base (.t 8) (.c (.int .i64 1))),
.s 8 (.mv (.t 18))] [8,0,1,7])))))))
(.seq (.reg [.s 4 (.mv (.c (.int .i64 (-1))))] [4])
.ret)))
theorem ok150 : FnOk Go.Proofs.Tryz.prog 150 ⟨19, [.t 4], S150⟩ :=
  FnOk.of [[0,1],[8,0,1,7],[0,1,7,8,9],[5,0,1,7,8],[5,0,1,7,8,16],[4],[8,0,1,7],[4]] Go.Proofs.Tryz.func150 (by kernel_rfl) (by kernel_rfl) (by kernel_rfl) (by kernel_rfl) (by kernel_rfl) (by kernel_rfl)
def S151 : S :=
(.seq (.reg [.s 2 (.mv (.c (.bool false))),
.s 3 (.mv (.c (.bool false))),
.s 4 (.mv (.c (.bool false))),
.s 5 (.mv (.c (.bool false)))] [0])
(.seq (.seq (.reg [.s 6 (.mv (.t 0))] [6])
(.block 0 (.seq (.reg [.s 8 (.bin .eql .base (.t 6) (.c (.int .i64 1))),
.s 7 (.mv (.t 8))] [6,7])
(.cond (.t 7)
(.seq (.reg [.s 2 (.mv (.c (.bool true))),
.s 3 (.mv (.c (.bool false))),
.s 4 (.mv (.c (.bool false))),
.s 5 (.mv (.c (.bool true)))] [2,3,4,5])
.ret)
(.seq (.reg [.s 10 (.bin .eql .base (.t 6) (.c (.int .i64 6))),
.s 9 (.mv (.t 10))] [6,9])
(.cond (.t 9)
(.seq (.reg [.s 2 (.mv (.c (.bool true))),
.s 3 (.mv (.c (.bool true))),
.s 4 (.mv (.c (.bool false))),
.s 5 (.mv (.c (.bool true)))] [2,3,4,5])
.ret)
(.seq (.reg [.s 12 (.bin .eql .base (.t 6) (.c (.int .i64 4))),
.s 11 (.mv (.t 12))] [6,11])
(.cond (.t 11)
(.seq (.reg [.s 2 (.mv (.c (.bool false))),
.s 3 (.mv (.c (.bool false))),
.s 4 (.mv (.c (.bool true))),
.s 5 (.mv (.c (.bool true)))] [2,3,4,5])
.ret)
(.seq (.seq (.reg [.s 14 (.bin .eql .base (.t 6) (.c (.int .i64 2))),
.s 13 (.mv (.t 14))] [13,6])
(.cond (.t 13)
.skip
(.seq (.reg [.s 15 (.bin .eql .base (.t 6) (.c (.int .i64 3))),
.s 13 (.mv (.t 15))] [13,6])
(.cond (.t 13)
.skip
(.reg [.s 16 (.bin .eql .base (.t 6) (.c (.int .i64 5))),
.s 13 (.mv (.t 16))] [13])))))
(.cond (.t 13)
(.seq (.reg [.s 2 (.mv (.c (.bool false))),
.s 3 (.mv (.c (.bool false))),
.s 4 (.mv (.c (.bool false))),
.s 5 (.mv (.c (.bool true)))] [2,3,4,5])
.ret)
.skip))))))))))
(.seq (.reg [.s 2 (.mv (.c (.bool false))),
.s 3 (.mv (.c (.bool false))),
.s 4 (.mv (.c (.bool false))),
.s 5 (.mv (.c (.bool false)))] [2,3,4,5])
.ret)))
theorem ok151 : FnOk Go.Proofs.Tryz.prog 151 ⟨17, [.t 2,.t 3,.t 4,.t 5], S151⟩ :=
  FnOk.of [[0],[6],[6,7],[2,3,4,5],[6,9],[2,3,4,5],[6,11],[2,3,4,5],[13,6],[13,6],[13],[2,3,4,5],[2,3,4,5]] Go.Proofs.Tryz.func151 (by kernel_rfl) (by kernel_rfl) (by kernel_rfl) (by kernel_rfl) (by kernel_rfl) (by kernel_rfl)
def S152 : S :=
(.seq (.reg [.s 4 (.mv (.c (.str []))),
.s 5 (.mv (.c (.int .i64 0)))] [0,1])
(.seq (.seq (.reg [.s 6 (.mv (.t 0)),
.s 7 (.bin .eql .base (.t 6) (.c (.str []))),
.s 8 (.mv (.t 7)),
.z 9 (.mv (.t 0)) 8,
.z 10 (.call 157 [(.t 9),(.c (.str [97,98,99,100,101,102,103,104,105,106,107,108,109,110,111,112,113,114,115,116,117,118,119,120,121,122,65,66,67,68,69,70,71,72,73,74,75,76,77,78,79,80,81,82,83,84,85,86,87,88,89,90,48,49,50,51,52,53,54,55,56,57,45,95]))]) 8,
.z 11 (.bin .neq .base (.t 10) (.c (.str []))) 8,
.s 12 (.pick (.t 8) (.c (.bool true)) (.t 11)),
.s 13 (.mv (.t 12)),
.z 14 (.mv (.t 1)) 13,
.z 15 (.mv (.t 14)) 13,
.y 16 (.mv (.t 0)) 15,
.y 17 (.ixS (.t 16) (.c (.int .i64 0))) 15,
.y 18 (.call 187 [(.c (.str [48,49,50,51,52,53,54,55,56,57])),(.t 17)]) 15,
.y 19 (.bin .geq .base (.t 18) (.c (.int .i64 0))) 15,
.z 20 (.pick (.t 15) (.t 19) (.c (.bool false))) 13,
.s 21 (.pick (.t 13) (.c (.bool true)) (.t 20))] [0,21])
(.cond (.t 21)
(.seq (.reg [.s 22 (.mv (.t 0)),
.s 23 (.call 158 [(.t 22)]),
.s 24 (.ext (.t 23) 0),
.s 25 (.ext (.t 23) 1),
.s 4 (.mv (.t 24)),
.s 5 (.mv (.t 25))] [4,5])
.ret)
.skip))
(.seq (.reg [.s 26 (.mv (.t 0)),
.s 4 (.mv (.t 26)),
.s 5 (.mv (.c (.int .i64 0)))] [4,5])
.ret)))
theorem ok152 : FnOk Go.Proofs.Tryz.prog 152 ⟨27, [.t 4,.t 5], S152⟩ :=
  FnOk.of [[0,1],[0,21],[4,5],[4,5]] Go.Proofs.Tryz.func152 (by kernel_rfl) (by kernel_rfl) (by kernel_rfl) (by kernel_rfl) (by kernel_rfl) (by kernel_rfl)
def S153 : S :=
(.seq (.reg [.s 2 (.mv (.t 0)),
.s 3 (.nck (.t 2)),
.s 4 (.fad 0 (.t 3)),
.s 5 (.ld 1 false (.t 4)),
.s 6 (.bin .eql .ptr (.t 5) (.c .nilp))] [0,6])
(.cond (.t 6)
(.reg [.s 7 (.mv (.t 0)),
.s 8 (.mv (.t 0)),
.s 9 (.cvP (.t 8)),
.s 10 (.call 188 [(.t 9)]),
.s 11 (.cvQ 190 (.t 10)),
.s 12 (.nck (.t 7)),
.s 13 (.fad 0 (.t 12)),
.n (.st 1 (.t 13) (.t 11))] [])
(.seq (.reg [.s 14 (.mv (.t 0)),
.s 15 (.nck (.t 14)),
.s 16 (.fad 0 (.t 15)),
.s 17 (.ld 1 false (.t 16)),
.s 18 (.mv (.t 0)),
.s 19 (.bin .neq .ptr (.t 17) (.t 18))] [19])
(.cond (.t 19)
.bad
.skip))))
theorem ok153 : FnOk Go.Proofs.Tryz.prog 153 ⟨20, [], S153⟩ :=
  FnOk.of [[0,6],[],[19]] Go.Proofs.Tryz.func153 (by kernel_rfl) (by kernel_rfl) (by kernel_rfl) (by kernel_rfl) (by kernel_rfl) (by kernel_rfl)
def S158 : S :=
(.seq (.reg [.s 2 (.mv (.c (.str []))),
.s 3 (.mv (.c (.int .i64 0)))] [0])
(.seq (.reg [.s 11 (.mv (.t 0)),
.s 12 (.call 177 [(.t 11)]),
.s 10 (.mv (.t 12)),
.s 13 (.ext (.t 10) 0),
.s 14 (.ext (.t 10) 1),
.s 5 (.new [(.int .i64 0),(.int .i64 0)] 81),
.s 4 (.mv (.t 13)),
.n (.st 2 (.t 5) (.t 14))] [4,5])
(.seq (.seq (.reg [.s 15 (.ld 2 true (.t 5)),
.s 16 (.bld [(.int .i64 0),(.int .i64 0)] []),
.s 17 (.bin .neq (.agg [.int,.int]) (.t 15) (.t 16))] [4,17])
(.cond (.t 17)
(.seq (.reg [.s 2 (.mv (.c (.str []))),
.s 3 (.mv (.c (.int .i64 8)))] [2,3])
.ret)
.skip))
(.seq (.reg [.s 6 (.new [.nilp,.nils] 305)] [6,4])
(.seq (.reg [.s 18 (.mkF 198 [(.t 6)] []),
.s 7 (.mv (.t 18))] [7,6,4])
(.seq (.seq (.reg [.s 19 (.mv (.t 4)),
.s 20 (.len 1 (.t 19)),
.s 21 (.mv (.c (.int .i64 0)))] [21,7,19,6,20])
(.block 0 (.loop (.seq (.reg [.s 22 (.bin .lss .base (.t 21) (.t 20))] [7,19,6,20,21,22])
(.seq (.cond (.t 22)
.skip
(.exit 0))
(.seq (.block 1 (.seq (.reg [.s 23 (.iad 1 (.t 19) (.t 21)),
.s 24 (.ld 1 false (.t 23)),
.s 9 (.mv (.t 24))] [7,19,6,20,21,9])
(.reg [.s 25 (.mv (.t 7)),
.s 26 (.mv (.t 9)),
.s 27 (.callv (.t 25) [(.t 26)])] [7,19,6,20,21])))
(.reg [.s 28 (.bin .add .base (.t 21) (.c (.int .i64 1))),
.s 21 (.mv (.t 28))] [21,7,19,6,20])))))))
(.seq (.reg [.s 29 (.fad 0 (.t 6)),
.s 30 (.call 109 [(.t 29)]),
.s 31 (.bin .add .base (.c (.str [34])) (.t 30)),
.s 32 (.bin .add .base (.t 31) (.c (.str [34]))),
.s 2 (.mv (.t 32)),
.s 3 (.mv (.c (.int .i64 0)))] [2,3])
.ret)))))))
theorem ok158 : FnOk Go.Proofs.Tryz.prog 158 ⟨33, [.t 2,.t 3], S158⟩ :=
  FnOk.of [[0],[4,5],[4,17],[2,3],[6,4],[7,6,4],[21,7,19,6,20],[7,19,6,20,21,22],[7,19,6,20,21,9],[7,19,6,20,21],[21,7,19,6,20],[2,3]] Go.Proofs.Tryz.func158 (by kernel_rfl) (by kernel_rfl) (by kernel_rfl) (by kernel_rfl) (by kernel_rfl) (by kernel_rfl)
def S176 : S :=
(.seq (.reg [.s 2 (.mv (.c (.int .i64 0)))] [0])
(.seq (.seq (.reg [.s 5 (.mv (.t 0))] [0,5])
(.block 0 (.seq (.seq (.reg [.s 7 (.bin .eql .base (.t 5) (.c (.str []))),
.s 6 (.mv (.t 7))] [0,5,6])
(.cond (.t 6)
.skip
(.seq (.reg [.s 8 (.bin .eql .base (.t 5) (.c (.str [126]))),
.s 6 (.mv (.t 8))] [0,5,6])
(.cond (.t 6)
.skip
(.reg [.s 9 (.bin .eql .base (.t 5) (.c (.str [110,117,108,108]))),
.s 6 (.mv (.t 9))] [0,5,6])))))
(.cond (.t 6)
(.seq (.reg [.s 2 (.mv (.c (.int .i64 1)))] [2])
.ret)
(.seq (.seq (.reg [.s 11 (.bin .eql .base (.t 5) (.c (.str [116,114,117,101]))),
.s 10 (.mv (.t 11))] [0,10,5])
(.cond (.t 10)
.skip
(.reg [.s 12 (.bin .eql .base (.t 5) (.c (.str [102,97,108,115,101]))),
.s 10 (.mv (.t 12))] [0,10])))
(.cond (.t 10)
(.seq (.reg [.s 2 (.mv (.c (.int .i64 2)))] [2])
.ret)
.skip))))))
(.seq (.seq (.reg [.s 14 (.mv (.t 0)),
.s 15 (.call 207 [(.t 14)]),
.s 13 (.mv (.t 15)),
.s 16 (.ext (.t 13) 0),
.s 17 (.ext (.t 13) 1),
.s 3 (.mv (.t 16)),
.s 4 (.mv (.t 17))] [4])
(.seq (.reg [.s 18 (.mv (.t 4))] [18])
(.cond (.t 18)
(.seq (.reg [.s 2 (.mv (.c (.int .i64 3)))] [2])
.ret)
.skip)))
(.seq (.reg [.s 2 (.mv (.c (.int .i64 4)))] [2])
.ret))))
theorem ok176 : FnOk Go.Proofs.Tryz.prog 176 ⟨19, [.t 2], S176⟩ :=
  FnOk.of [[0],[0,5],[0,5,6],[0,5,6],[0,5,6],[2],[0,10,5],[0,10],[2],[4],[18],[2],[2]] Go.Proofs.Tryz.func176 (by kernel_rfl) (by kernel_rfl) (by kernel_rfl) (by kernel_rfl) (by kernel_rfl) (by kernel_rfl)
def S177 : S :=
(.seq (.reg [.s 2 (.mv (.c .nils)),
.s 3 (.new [(.int .i64 0),(.int .i64 0)] 81)] [3,0])
(.seq (.reg [.s 4 (.new [.nils] 66)] [3,4,0])
(.seq (.reg [.s 7 (.mv (.t 0)),
.s 8 (.mkF 209 [] [(.t 4)]),
.s 9 (.call 208 [(.t 7),(.t 8)]),
.s 5 (.mv (.t 9))] [3,4,5,0])
(.seq (.seq (.reg [.s 10 (.mv (.t 0)),
.s 11 (.mv (.t 5)),
.s 12 (.call 210 [(.t 10),(.t 11)]),
.s 6 (.new [(.int .i64 0),(.int .i64 0)] 81),
.n (.st 2 (.t 6) (.t 12))] [3,6,4])
(.seq (.reg [.s 13 (.ld 2 true (.t 6)),
.s 14 (.bld [(.int .i64 0),(.int .i64 0)] []),
.s 15 (.bin .neq (.agg [.int,.int]) (.t 13) (.t 14))] [3,6,4,15])
(.cond (.t 15)
(.seq (.regD [(0, .s 16 (.ld 2 true (.t 6)), 0),
(1, .s 2 (.mv (.c .nils)), 0),
(2, .n (.st 2 (.t 3) (.t 16)), 3)] [2,3])
.ret)
.skip)))
(.seq (.reg [.s 17 (.ld 1 false (.t 4)),
.s 18 (.bld [(.int .i64 0),(.int .i64 0)] []),
.s 2 (.mv (.t 17)),
.n (.st 2 (.t 3) (.t 18))] [2,3])
.ret)))))
theorem ok177 : FnOk Go.Proofs.Tryz.prog 177 ⟨19, [.t 2,.c 3 2 true], S177⟩ :=
  FnOk.of [[3,0],[3,4,0],[3,4,5,0],[3,6,4],[3,6,4,15],[2,3],[2,3]] Go.Proofs.Tryz.func177 (by kernel_rfl) (by kernel_rfl) (by kernel_rfl) (by kernel_rfl) (by kernel_rfl) (by kernel_rfl)
def S181 : S :=
(.seq (.reg [.s 4 (.mv (.c (.str []))),
.s 5 (.mv (.c (.bool false)))] [1,0])
(.seq (.reg [.s 6 (.mv (.t 0)),
.s 7 (.mv (.t 1)),
.s 8 (.call 211 [(.t 6),(.t 7)]),
.s 9 (.ext (.t 8) 0),
.s 10 (.ext (.t 8) 1),
.s 4 (.mv (.t 9)),
.s 5 (.mv (.t 10))] [4,5])
.ret))
theorem ok181 : FnOk Go.Proofs.Tryz.prog 181 ⟨11, [.t 4,.t 5], S181⟩ :=
  FnOk.of [[1,0],[4,5]] Go.Proofs.Tryz.func181 (by kernel_rfl) (by kernel_rfl) (by kernel_rfl) (by kernel_rfl) (by kernel_rfl) (by kernel_rfl)
def S182 : S :=
(.seq (.reg [.s 4 (.mv (.c (.int .i64 0)))] [1,0])
(.seq (.regD [(0, .s 5 (.mv (.t 0)), 0),
(1, .s 6 (.nck (.t 5)), 1),
(2, .s 7 (.fad 1 (.t 6)), 3),
(3, .s 8 (.ld 1 false (.t 7)), 7),
(4, .s 9 (.len 0 (.t 8)), 15),
(5, .s 10 (.mv (.t 0)), 0),
(6, .s 11 (.nck (.t 10)), 32),
(7, .s 12 (.fad 1 (.t 11)), 96),
(8, .s 13 (.ld 1 false (.t 12)), 224),
(9, .s 14 (.mv (.t 1)), 0),
(10, .s 15 (.call 199 [(.t 13),(.t 14)]), 992),
(11, .s 16 (.len 0 (.t 15)), 2016),
(12, .s 17 (.bin .sub .base (.t 9) (.t 16)), 4095),
(13, .s 4 (.mv (.t 17)), 8191)] [4])
.ret))
theorem ok182 : FnOk Go.Proofs.Tryz.prog 182 ⟨18, [.t 4], S182⟩ :=
  FnOk.of [[1,0],[4]] Go.Proofs.Tryz.func182 (by kernel_rfl) (by kernel_rfl) (by kernel_rfl) (by kernel_rfl) (by kernel_rfl) (by kernel_rfl)
def S183 : S :=
(.seq (.seq (.reg [.s 4 (.mv (.t 1)),
.s 5 (.mv (.t 0)),
.s 6 (.nck (.t 5)),
.s 7 (.fad 1 (.t 6)),
.s 8 (.ld 1 false (.t 7)),
.s 9 (.len 0 (.t 8)),
.s 10 (.bin .geq .base (.t 4) (.t 9))] [1,0,10])
(.cond (.t 10)
(.reg [.s 11 (.mv (.t 0)),
.s 12 (.mv (.t 0)),
.s 13 (.nck (.t 12)),
.s 14 (.fad 0 (.t 13)),
.s 15 (.ld 1 false (.t 14)),
.s 16 (.call 98 [(.t 11),(.c (.int .i64 4)),(.t 15)])] [1,0])
.skip))
(.reg [.s 17 (.mv (.t 0)),
.s 18 (.mv (.t 0)),
.s 19 (.call 99 [(.t 18)]),
.s 20 (.mv (.t 1)),
.s 21 (.bin .add .base (.t 19) (.t 20)),
.s 22 (.call 98 [(.t 17),(.c (.int .i64 3)),(.t 21)])] []))
theorem ok183 : FnOk Go.Proofs.Tryz.prog 183 ⟨23, [], S183⟩ :=
  FnOk.of [[1,0,10],[1,0],[]] Go.Proofs.Tryz.func183 (by kernel_rfl) (by kernel_rfl) (by kernel_rfl) (by kernel_rfl) (by kernel_rfl) (by kernel_rfl)
def S185 : S :=
(.seq (.reg [.s 4 (.mv (.c (.bool false)))] [1,0])
(.seq (.reg [.s 5 (.mv (.t 0)),
.s 6 (.mv (.t 1)),
.s 7 (.call 214 [(.t 5),(.t 6)]),
.s 4 (.mv (.t 7))] [4])
.ret))
theorem ok185 : FnOk Go.Proofs.Tryz.prog 185 ⟨8, [.t 4], S185⟩ :=
  FnOk.of [[1,0],[4]] Go.Proofs.Tryz.func185 (by kernel_rfl) (by kernel_rfl) (by kernel_rfl) (by kernel_rfl) (by kernel_rfl) (by kernel_rfl)
def S190 : S :=
(.seq (.reg [.s 4 (.mv (.c (.str [])))] [0,1])
(.seq (.seq (.reg [.s 10 (.mv (.t 1)),
.s 11 (.bin .eql .base (.t 10) (.c (.int .i64 10)))] [0,1,11])
(.cond (.t 11)
(.seq (.seq (.reg [.s 12 (.mv (.t 0)),
.s 13 (.bin .leq .base (.c (.int .i64 0)) (.t 12)),
.s 14 (.mv (.t 13)),
.y 15 (.mv (.t 0)) 14,
.y 16 (.bin .lss .base (.t 15) (.c (.int .i64 100))) 14,
.s 17 (.pick (.t 14) (.t 16) (.c (.bool false)))] [0,17])
(.cond (.t 17)
(.seq (.reg [.s 18 (.mv (.t 0)),
.s 19 (.call 217 [(.t 18)]),
.s 4 (.mv (.t 19))] [4])
.ret)
.skip))
(.seq (.reg [.s 5 (.new (List.replicate 24 (.int .u8 0)) 313)] [5,0])
(.seq (.reg [.s 20 (.mv (.t 0)),
.s 21 (.cvI .u64 (.t 20)),
.s 6 (.mv (.t 21))] [5,0,6])
(.seq (.seq (.reg [.s 22 (.mv (.t 0)),
.s 23 (.bin .lss .base (.t 22) (.c (.int .i64 0)))] [5,0,6,23])
(.cond (.t 23)
(.reg [.s 24 (.mv (.t 6)),
.s 25 (.un .neg (.t 24)),
.s 6 (.mv (.t 25))] [5,0,6])
.skip))
(.seq (.reg [.s 26 (.mv (.t 6)),
.s 27 (.call 218 [(.t 26)]),
.s 7 (.mv (.t 27))] [5,7,0,6])
(.seq (.reg [.s 28 (.mv (.t 7)),
.s 29 (.bin .add .base (.c (.int .i64 1)) (.t 28)),
.s 30 (.sA 24 1 (.t 5) (some (.c (.int .i64 1))) (some (.t 29))),
.s 31 (.mv (.t 6)),
.s 32 (.call 219 [(.t 30),(.t 31)])] [5,7,0])
(.seq (.seq (.reg [.s 33 (.mv (.t 0)),
.s 34 (.bin .lss .base (.t 33) (.c (.int .i64 0)))] [5,7,34])
(.cond (.t 34)
(.seq (.reg [.s 35 (.iadA 24 1 (.t 5) (.c (.int .i64 0))),
.n (.st 1 (.t 35) (.c (.int .u8 45)))] [5,7])
(.seq (.reg [.s 36 (.mv (.t 7)),
.s 37 (.bin .add .base (.c (.int .i64 1)) (.t 36)),
.s 38 (.sA 24 1 (.t 5) none (some (.t 37))),
.s 39 (.cvB (.t 38)),
.s 4 (.mv (.t 39))] [4])
.ret))
.skip))
(.seq (.reg [.s 40 (.mv (.t 7)),
.s 41 (.bin .add .base (.c (.int .i64 1)) (.t 40)),
.s 42 (.sA 24 1 (.t 5) (some (.c (.int .i64 1))) (some (.t 41))),
.s 43 (.cvB (.t 42)),
.s 4 (.mv (.t 43))] [4])
.ret))))))))
.skip))
(.seq (.reg [.s 45 (.mv (.t 0)),
.s 46 (.cvI .u64 (.t 45)),
.s 47 (.mv (.t 1)),
.s 48 (.mv (.t 0)),
.s 49 (.bin .lss .base (.t 48) (.c (.int .i64 0))),
.s 50 (.call 220 [(.c .nils),(.t 46),(.t 47),(.t 49),(.c (.bool false))]),
.s 44 (.mv (.t 50)),
.s 51 (.ext (.t 44) 0),
.s 52 (.ext (.t 44) 1),
.s 8 (.mv (.t 51)),
.s 9 (.mv (.t 52))] [9])
(.seq (.reg [.s 53 (.mv (.t 9)),
.s 4 (.mv (.t 53))] [4])
.ret))))
theorem ok190 : FnOk Go.Proofs.Tryz.prog 190 ⟨54, [.t 4], S190⟩ :=
  FnOk.of [[0,1],[0,1,11],[0,17],[4],[5,0],[5,0,6],[5,0,6,23],[5,0,6],[5,7,0,6],[5,7,0],[5,7,34],[5,7],[4],[4],[9],[4]] Go.Proofs.Tryz.func190 (by kernel_rfl) (by kernel_rfl) (by kernel_rfl) (by kernel_rfl) (by kernel_rfl) (by kernel_rfl)
def S198 : S :=
(.seq (.reg [.s 5 (.mv (.t 1)),
.s 6 (.call 225 [(.t 5)]),
.s 4 (.mv (.t 6))] [4,0,1])
(.block 0 (.seq (.reg [.s 11 (.mv (.t 4)),
.s 12 (.bin .neq .base (.t 11) (.c (.int .u8 0))),
.s 10 (.mv (.t 12))] [4,0,1,10])
(.cond (.t 10)
(.seq (.reg [.s 13 (.mv (.t 0)),
.s 14 (.nck (.t 13)),
.s 15 (.fad 0 (.t 14)),
.s 16 (.call 107 [(.t 15),(.c (.int .u8 92))])] [4,0])
(.reg [.s 17 (.mv (.t 0)),
.s 18 (.nck (.t 17)),
.s 19 (.fad 0 (.t 18)),
.s 20 (.mv (.t 4)),
.s 21 (.call 107 [(.t 19),(.t 20)])] []))
(.seq (.reg [.s 23 (.mv (.t 1)),
.s 24 (.call 226 [(.t 23)]),
.s 22 (.mv (.t 24))] [1,0,22])
(.cond (.t 22)
(.reg [.s 25 (.mv (.t 0)),
.s 26 (.nck (.t 25)),
.s 27 (.fad 0 (.t 26)),
.s 28 (.mv (.t 1)),
.s 29 (.cvI .i32 (.t 28)),
.s 30 (.call 227 [(.t 27),(.t 29)])] [])
(.seq (.reg [.s 32 (.mv (.t 1)),
.s 33 (.bin .lss .base (.t 32) (.c (.int .i64 256))),
.s 31 (.mv (.t 33))] [1,0,31])
(.cond (.t 31)
(.reg [.s 34 (.mv (.t 0)),
.s 35 (.mv (.t 1)),
.s 36 (.call 228 [(.t 34),(.c (.int .u8 120)),(.t 35),(.c (.int .i64 2))])] [])
(.seq (.reg [.s 38 (.mv (.t 1)),
.s 39 (.bin .lss .base (.t 38) (.c (.int .i64 65536))),
.s 37 (.mv (.t 39))] [1,0,37])
(.cond (.t 37)
(.reg [.s 40 (.mv (.t 0)),
.s 41 (.mv (.t 1)),
.s 42 (.call 228 [(.t 40),(.c (.int .u8 117)),(.t 41),(.c (.int .i64 4))])] [])
(.reg [.s 7 (.mv (.t 0)),
.s 8 (.mv (.t 1)),
.s 9 (.call 228 [(.t 7),(.c (.int .u8 85)),(.t 8),(.c (.int .i64 8))])] [])))))))))))
theorem ok198 : FnOk Go.Proofs.Tryz.prog 198 ⟨43, [], S198⟩ :=
  FnOk.of [[4,0,1],[4,0,1,10],[4,0],[],[1,0,22],[],[1,0,31],[],[1,0,37],[],[]] Go.Proofs.Tryz.func198 (by kernel_rfl) (by kernel_rfl) (by kernel_rfl) (by kernel_rfl) (by kernel_rfl) (by kernel_rfl)
end Go.Eng.Tryz
namespace Go.Eng.Tryz
open Go.Eng
def S206 : S :=
(.seq (.reg [.s 2 (.mv (.c (.str [])))] [0])
(.seq (.reg [.s 3 (.mv (.t 0)),
.s 4 (.call 116 [(.t 3)]),
.s 2 (.mv (.t 4))] [2])
.ret))
theorem ok206 : FnOk Go.Proofs.Tryz.prog 206 ⟨5, [.t 2], S206⟩ :=
  FnOk.of [[0],[2]] Go.Proofs.Tryz.func206 (by kernel_rfl) (by kernel_rfl) (by kernel_rfl) (by kernel_rfl) (by kernel_rfl) (by kernel_rfl)
def S207 : S :=
(.seq (.reg [.s 2 (.mv (.c (.int .i64 0))),
.s 3 (.mv (.c (.bool false)))] [0])
(.seq (.reg [.s 7 (.mv (.t 0)),
.s 8 (.call 184 [(.t 7)]),
.s 6 (.mv (.t 8)),
.s 9 (.ext (.t 6) 0),
.s 10 (.ext (.t 6) 1),
.s 4 (.mv (.t 9)),
.s 5 (.mv (.t 10))] [4,0,5])
(.seq (.seq (.reg [.s 11 (.mv (.t 5)),
.s 12 (.bin .neq .ifc (.t 11) (.c .nili)),
.s 13 (.mv (.t 12)),
.z 14 (.mv (.t 4)) 13,
.z 15 (.call 206 [(.t 14)]) 13,
.z 16 (.mv (.t 0)) 13,
.z 17 (.bin .neq .base (.t 15) (.t 16)) 13,
.s 18 (.pick (.t 13) (.c (.bool true)) (.t 17))] [4,18])
(.cond (.t 18)
(.seq (.reg [.s 2 (.mv (.c (.int .i64 0))),
.s 3 (.mv (.c (.bool false)))] [2,3])
.ret)
.skip))
(.seq (.reg [.s 19 (.mv (.t 4)),
.s 2 (.mv (.t 19)),
.s 3 (.mv (.c (.bool true)))] [2,3])
.ret))))
theorem ok207 : FnOk Go.Proofs.Tryz.prog 207 ⟨20, [.t 2,.t 3], S207⟩ :=
  FnOk.of [[0],[4,0,5],[4,18],[2,3],[2,3]] Go.Proofs.Tryz.func207 (by kernel_rfl) (by kernel_rfl) (by kernel_rfl) (by kernel_rfl) (by kernel_rfl) (by kernel_rfl)
def S208 : S :=
(.seq (.reg [.s 4 (.mv (.c (.int .i64 0)))] [1,0])
(.seq (.reg [.s 5 (.mv (.c (.int .i64 0)))] [5,1,0])
(.seq (.block 0 (.loop (.seq (.seq (.reg [.s 8 (.mv (.t 5)),
.s 9 (.mv (.t 0)),
.s 10 (.len 0 (.t 9)),
.s 11 (.bin .lss .base (.t 8) (.t 10))] [5,1,0,11])
(.cond (.t 11)
.skip
(.exit 0)))
(.block 1 (.seq (.reg [.s 13 (.mv (.t 0)),
.s 14 (.mv (.t 5)),
.s 15 (.sS (.t 13) (some (.t 14)) none),
.s 16 (.call 235 [(.t 15)]),
.s 12 (.mv (.t 16)),
.s 17 (.ext (.t 12) 0),
.s 18 (.ext (.t 12) 1),
.s 6 (.mv (.t 17)),
.s 7 (.mv (.t 18))] [5,1,0,7,6])
(.seq (.seq (.reg [.s 19 (.mv (.t 1)),
.s 20 (.mv (.t 6)),
.s 21 (.callv (.t 19) [(.t 20)]),
.s 22 (.un .not (.t 21))] [5,1,0,7,22])
(.cond (.t 22)
(.exit 0)
.skip))
(.reg [.s 23 (.mv (.t 5)),
.s 24 (.mv (.t 7)),
.s 25 (.bin .add .base (.t 23) (.t 24)),
.s 5 (.mv (.t 25))] [5,1,0])))))))
(.seq (.reg [.s 26 (.mv (.t 5)),
.s 4 (.mv (.t 26))] [4])
.ret))))
theorem ok208 : FnOk Go.Proofs.Tryz.prog 208 ⟨27, [.t 4], S208⟩ :=
  FnOk.of [[1,0],[5,1,0],[5,1,0,11],[5,1,0,7,6],[5,1,0,7,22],[5,1,0],[4]] Go.Proofs.Tryz.func208 (by kernel_rfl) (by kernel_rfl) (by kernel_rfl) (by kernel_rfl) (by kernel_rfl) (by kernel_rfl)
def S209 : S :=
(.seq (.reg [.s 3 (.mv (.c (.bool false)))] [0,1])
(.seq (.reg [.s 4 (.ld 1 false (.t 1)),
.s 5 (.mv (.t 0)),
.s 6 (.bsl 1 3 [(.int .i64 0)] 1 [(0,(.t 5))]),
.s 7 (.ap 1 8 3 (.t 4) (.t 6)),
.n (.st 1 (.t 1) (.t 7))] [0])
(.seq (.reg [.s 8 (.mv (.t 0)),
.s 9 (.bin .geq .base (.t 8) (.c (.int .i64 0))),
.s 3 (.mv (.t 9))] [3])
.ret)))
theorem ok209 : FnOk Go.Proofs.Tryz.prog 209 ⟨10, [.t 3], S209⟩ :=
  FnOk.of [[0,1],[0],[3]] Go.Proofs.Tryz.func209 (by kernel_rfl) (by kernel_rfl) (by kernel_rfl) (by kernel_rfl) (by kernel_rfl) (by kernel_rfl)
def S210 : S :=
(.seq (.reg [.s 4 (.new [(.int .i64 0),(.int .i64 0)] 81)] [4,1,0])
(.seq (.seq (.reg [.s 5 (.mv (.t 1)),
.s 6 (.mv (.t 0)),
.s 7 (.len 0 (.t 6)),
.s 8 (.bin .lss .base (.t 5) (.t 7))] [4,1,8])
(.cond (.t 8)
(.seq (.reg [.s 9 (.mv (.t 1)),
.s 10 (.bld [(.int .i64 0),(.int .i64 0)] [(0,1,(.c (.int .i64 8))),(1,1,(.t 9))]),
.n (.st 2 (.t 4) (.t 10))] [4])
.ret)
.skip))
(.seq (.reg [.s 11 (.bld [(.int .i64 0),(.int .i64 0)] []),
.n (.st 2 (.t 4) (.t 11))] [4])
.ret)))
theorem ok210 : FnOk Go.Proofs.Tryz.prog 210 ⟨12, [.c 4 2 true], S210⟩ :=
  FnOk.of [[4,1,0],[4,1,8],[4],[4]] Go.Proofs.Tryz.func210 (by kernel_rfl) (by kernel_rfl) (by kernel_rfl) (by kernel_rfl) (by kernel_rfl) (by kernel_rfl)
def S211 : S :=
(.seq (.reg [.s 4 (.mv (.c (.str []))),
.s 5 (.mv (.c (.bool false)))] [0,1])
(.seq (.seq (.reg [.s 6 (.mv (.t 0)),
.s 7 (.mv (.t 1)),
.s 8 (.call 214 [(.t 6),(.t 7)]),
.s 9 (.un .not (.t 8))] [0,1,9])
(.cond (.t 9)
(.seq (.reg [.s 10 (.mv (.t 0)),
.s 4 (.mv (.t 10)),
.s 5 (.mv (.c (.bool false)))] [4,5])
.ret)
.skip))
(.seq (.reg [.s 11 (.mv (.t 0)),
.s 12 (.mv (.t 1)),
.s 13 (.len 0 (.t 12)),
.s 14 (.sS (.t 11) (some (.t 13)) none),
.s 4 (.mv (.t 14)),
.s 5 (.mv (.c (.bool true)))] [4,5])
.ret)))
theorem ok211 : FnOk Go.Proofs.Tryz.prog 211 ⟨15, [.t 4,.t 5], S211⟩ :=
  FnOk.of [[0,1],[0,1,9],[4,5],[4,5]] Go.Proofs.Tryz.func211 (by kernel_rfl) (by kernel_rfl) (by kernel_rfl) (by kernel_rfl) (by kernel_rfl) (by kernel_rfl)
def S214 : S :=
(.seq (.reg [.s 4 (.mv (.c (.bool false)))] [1,0])
(.seq (.reg [.s 5 (.mv (.t 0)),
.s 6 (.len 0 (.t 5)),
.s 7 (.mv (.t 1)),
.s 8 (.len 0 (.t 7)),
.s 9 (.bin .geq .base (.t 6) (.t 8)),
.s 10 (.mv (.t 9)),
.y 11 (.mv (.t 0)) 10,
.y 12 (.mv (.t 1)) 10,
.y 13 (.len 0 (.t 12)) 10,
.y 14 (.sS (.t 11) none (some (.t 13))) 10,
.y 15 (.mv (.t 1)) 10,
.y 16 (.bin .eql .base (.t 14) (.t 15)) 10,
.s 17 (.pick (.t 10) (.t 16) (.c (.bool false))),
.s 4 (.mv (.t 17))] [4])
.ret))
theorem ok214 : FnOk Go.Proofs.Tryz.prog 214 ⟨18, [.t 4], S214⟩ :=
  FnOk.of [[1,0],[4]] Go.Proofs.Tryz.func214 (by kernel_rfl) (by kernel_rfl) (by kernel_rfl) (by kernel_rfl) (by kernel_rfl) (by kernel_rfl)
def S220 : S :=
(.seq (.reg [.s 10 (.mv (.c .nils)),
.s 11 (.mv (.c (.str [])))] [11,0,10,4,3,2,1])
(.seq (.seq (.reg [.s 19 (.mv (.t 2)),
.s 20 (.bin .lss .base (.t 19) (.c (.int .i64 2))),
.s 21 (.mv (.t 20)),
.z 22 (.mv (.t 2)) 21,
.z 23 (.bin .eql .base (.t 22) (.c (.int .i64 10))) 21,
.s 24 (.pick (.t 21) (.c (.bool true)) (.t 23)),
.s 25 (.mv (.t 24)),
.z 26 (.mv (.t 2)) 25,
.z 27 (.bin .gtr .base (.t 26) (.c (.int .i64 36))) 25,
.s 28 (.pick (.t 25) (.c (.bool true)) (.t 27))] [11,0,10,4,3,2,1,28])
(.cond (.t 28)
(.reg [.s 29 (.mkI 9 (.c (.str [115,116,114,99,111,110,118,58,32,105,108,108,101,103,97,108,32,65,112,112,101,110,100,73,110,116,47,70,111,114,109,97,116,73,110,116,32,98,97,115,101]))),
.n (.bad)] [11,0,10,4,3,2,1])
.skip))
(.seq (.reg [.s 12 (.new (List.replicate 65 (.int .u8 0)) 341)] [12,11,0,10,4,3,2,1])
(.seq (.reg [.s 13 (.mv (.c (.int .i64 65)))] [12,13,11,0,10,4,3,2,1])
(.seq (.seq (.reg [.s 30 (.mv (.t 3))] [12,13,11,0,10,4,3,2,1,30])
(.cond (.t 30)
(.reg [.s 31 (.mv (.t 1)),
.s 32 (.un .neg (.t 31)),
.s 1 (.mv (.t 32))] [1,12,13,11,0,10,4,3,2])
.skip))
(.seq (.seq (.reg [.s 33 (.mv (.t 2)),
.s 34 (.call 247 [(.t 33)])] [1,12,13,11,0,10,4,3,2,34])
(.cond (.t 34)
(.seq (.reg [.s 35 (.mv (.t 2)),
.s 36 (.cvI .u64 (.t 35)),
.s 37 (.call 248 [(.t 36)]),
.s 38 (.cvI .u64 (.t 37)),
.s 14 (.mv (.t 38))] [14,1,12,13,11,0,10,4,3,2])
(.seq (.reg [.s 39 (.mv (.t 2)),
.s 40 (.cvI .u64 (.t 39)),
.s 15 (.mv (.t 40))] [14,1,12,13,11,0,10,4,3,15,2])
(.seq (.reg [.s 41 (.mv (.t 2)),
.s 42 (.cvI .u64 (.t 41)),
.s 43 (.bin .sub .base (.t 42) (.c (.int .u64 1))),
.s 16 (.mv (.t 43))] [14,1,12,16,13,11,0,10,4,3,15])
(.seq (.block 0 (.loop (.seq (.seq (.reg [.s 44 (.mv (.t 1)),
.s 45 (.mv (.t 15)),
.s 46 (.bin .geq .base (.t 44) (.t 45))] [14,12,16,11,0,10,4,3,15,1,13,46])
(.cond (.t 46)
.skip
(.exit 0)))
(.block 1 (.seq (.reg [.s 47 (.mv (.t 13)),
.s 48 (.bin .sub .base (.t 47) (.c (.int .i64 1))),
.s 13 (.mv (.t 48))] [14,12,16,13,11,0,10,4,3,15,1])
(.seq (.reg [.s 49 (.mv (.t 13)),
.s 50 (.mv (.t 1)),
.s 51 (.mv (.t 16)),
.s 52 (.bin .and .base (.t 50) (.t 51)),
.s 53 (.ixS (.c (.str [48,49,50,51,52,53,54,55,56,57,97,98,99,100,101,102,103,104,105,106,107,108,109,110,111,112,113,114,115,116,117,118,119,120,121,122])) (.t 52)),
.s 54 (.iadA 65 1 (.t 12) (.t 49)),
.n (.st 1 (.t 54) (.t 53))] [14,12,16,13,11,0,10,4,3,15,1])
(.reg [.s 55 (.mv (.t 1)),
.s 56 (.mv (.t 14)),
.s 57 (.bin .shr .base (.t 55) (.t 56)),
.s 1 (.mv (.t 57))] [14,1,12,16,13,11,0,10,4,3,15])))))))
(.seq (.reg [.s 58 (.mv (.t 13)),
.s 59 (.bin .sub .base (.t 58) (.c (.int .i64 1))),
.s 13 (.mv (.t 59))] [11,12,0,10,4,13,3,1])
(.reg [.s 60 (.mv (.t 13)),
.s 61 (.mv (.t 1)),
.s 62 (.ixS (.c (.str [48,49,50,51,52,53,54,55,56,57,97,98,99,100,101,102,103,104,105,106,107,108,109,110,111,112,113,114,115,116,117,118,119,120,121,122])) (.t 61)),
.s 63 (.iadA 65 1 (.t 12) (.t 60)),
.n (.st 1 (.t 63) (.t 62))] [11,12,0,10,4,13,3]))))))
(.seq (.reg [.s 64 (.mv (.t 2)),
.s 65 (.cvI .u64 (.t 64)),
.s 17 (.mv (.t 65))] [12,17,1,13,11,0,10,4,3])
(.seq (.block 2 (.loop (.seq (.seq (.reg [.s 66 (.mv (.t 1)),
.s 67 (.mv (.t 17)),
.s 68 (.bin .geq .base (.t 66) (.t 67))] [12,17,11,0,10,4,3,1,13,68])
(.cond (.t 68)
.skip
(.exit 2)))
(.block 3 (.seq (.reg [.s 69 (.mv (.t 13)),
.s 70 (.bin .sub .base (.t 69) (.c (.int .i64 1))),
.s 13 (.mv (.t 70))] [12,17,13,11,0,10,4,3,1])
(.seq (.reg [.s 71 (.mv (.t 1)),
.s 72 (.mv (.t 17)),
.s 73 (.bin .quo .base (.t 71) (.t 72)),
.s 18 (.mv (.t 73))] [12,17,13,11,0,10,4,3,18,1])
(.seq (.reg [.s 74 (.mv (.t 13)),
.s 75 (.mv (.t 1)),
.s 76 (.mv (.t 18)),
.s 77 (.mv (.t 17)),
.s 78 (.bin .mul .base (.t 76) (.t 77)),
.s 79 (.bin .sub .base (.t 75) (.t 78)),
.s 80 (.ixS (.c (.str [48,49,50,51,52,53,54,55,56,57,97,98,99,100,101,102,103,104,105,106,107,108,109,110,111,112,113,114,115,116,117,118,119,120,121,122])) (.t 79)),
.s 81 (.iadA 65 1 (.t 12) (.t 74)),
.n (.st 1 (.t 81) (.t 80))] [12,17,13,11,0,10,4,3,18])
(.reg [.s 82 (.mv (.t 18)),
.s 1 (.mv (.t 82))] [12,17,1,13,11,0,10,4,3]))))))))
(.seq (.reg [.s 83 (.mv (.t 13)),
.s 84 (.bin .sub .base (.t 83) (.c (.int .i64 1))),
.s 13 (.mv (.t 84))] [11,12,0,10,4,13,3,1])
(.reg [.s 85 (.mv (.t 13)),
.s 86 (.mv (.t 1)),
.s 87 (.ixS (.c (.str [48,49,50,51,52,53,54,55,56,57,97,98,99,100,101,102,103,104,105,106,107,108,109,110,111,112,113,114,115,116,117,118,119,120,121,122])) (.t 86)),
.s 88 (.iadA 65 1 (.t 12) (.t 85)),
.n (.st 1 (.t 88) (.t 87))] [11,12,0,10,4,13,3]))))))
(.seq (.seq (.reg [.s 89 (.mv (.t 3))] [11,12,0,10,4,13,89])
(.cond (.t 89)
(.seq (.reg [.s 90 (.mv (.t 13)),
.s 91 (.bin .sub .base (.t 90) (.c (.int .i64 1))),
.s 13 (.mv (.t 91))] [11,12,13,0,10,4])
(.reg [.s 92 (.mv (.t 13)),
.s 93 (.iadA 65 1 (.t 12) (.t 92)),
.n (.st 1 (.t 93) (.c (.int .u8 45)))] [11,12,13,0,10,4]))
.skip))
(.seq (.seq (.reg [.s 94 (.mv (.t 4))] [11,12,13,0,10,94])
(.cond (.t 94)
(.seq (.reg [.s 95 (.mv (.t 0)),
.s 96 (.mv (.t 13)),
.s 97 (.sA 65 1 (.t 12) (some (.t 96)) none),
.s 98 (.ap 1 1 5 (.t 95) (.t 97)),
.s 10 (.mv (.t 98))] [10,11])
.ret)
.skip))
(.seq (.reg [.s 99 (.mv (.t 13)),
.s 100 (.sA 65 1 (.t 12) (some (.t 99)) none),
.s 101 (.cvB (.t 100)),
.s 11 (.mv (.t 101))] [10,11])
.ret)))))))))
theorem ok220 : FnOk Go.Proofs.Tryz.prog 220 ⟨102, [.t 10,.t 11], S220⟩ :=
  FnOk.of [[11,0,10,4,3,2,1],[11,0,10,4,3,2,1,28],[11,0,10,4,3,2,1],[12,11,0,10,4,3,2,1],[12,13,11,0,10,4,3,2,1],[12,13,11,0,10,4,3,2,1,30],[1,12,13,11,0,10,4,3,2],[1,12,13,11,0,10,4,3,2,34],[14,1,12,13,11,0,10,4,3,2],[14,1,12,13,11,0,10,4,3,15,2],[14,1,12,16,13,11,0,10,4,3,15],[14,12,16,11,0,10,4,3,15,1,13,46],[14,12,16,13,11,0,10,4,3,15,1],[14,12,16,13,11,0,10,4,3,15,1],[14,1,12,16,13,11,0,10,4,3,15],[11,12,0,10,4,13,3,1],[11,12,0,10,4,13,3],[12,17,1,13,11,0,10,4,3],[12,17,11,0,10,4,3,1,13,68],[12,17,13,11,0,10,4,3,1],[12,17,13,11,0,10,4,3,18,1],[12,17,13,11,0,10,4,3,18],[12,17,1,13,11,0,10,4,3],[11,12,0,10,4,13,3,1],[11,12,0,10,4,13,3],[11,12,0,10,4,13,89],[11,12,13,0,10,4],[11,12,13,0,10,4],[11,12,13,0,10,94],[10,11],[10,11]] Go.Proofs.Tryz.func220 (by kernel_rfl) (by kernel_rfl) (by kernel_rfl) (by kernel_rfl) (by kernel_rfl) (by kernel_rfl)
def S225 : S :=
(.seq (.reg [.s 2 (.mv (.c (.int .u8 0)))] [0])
(.seq (.seq (.reg [.s 3 (.mv (.t 0))] [0,3])
(.block 0 (.seq (.seq (.reg [.s 5 (.bin .eql .base (.t 3) (.c (.int .i64 34))),
.s 4 (.mv (.t 5))] [0,3,4])
(.cond (.t 4)
.skip
(.reg [.s 6 (.bin .eql .base (.t 3) (.c (.int .i64 92))),
.s 4 (.mv (.t 6))] [0,3,4])))
(.cond (.t 4)
(.seq (.reg [.s 7 (.mv (.t 0)),
.s 8 (.cvI .u8 (.t 7)),
.s 2 (.mv (.t 8))] [2])
.ret)
(.seq (.reg [.s 10 (.bin .eql .base (.t 3) (.c (.int .i64 10))),
.s 9 (.mv (.t 10))] [3,9])
(.cond (.t 9)
(.seq (.reg [.s 2 (.mv (.c (.int .u8 110)))] [2])
.ret)
(.seq (.reg [.s 12 (.bin .eql .base (.t 3) (.c (.int .i64 9))),
.s 11 (.mv (.t 12))] [3,11])
(.cond (.t 11)
(.seq (.reg [.s 2 (.mv (.c (.int .u8 116)))] [2])
.ret)
(.seq (.reg [.s 14 (.bin .eql .base (.t 3) (.c (.int .i64 13))),
.s 13 (.mv (.t 14))] [3,13])
(.cond (.t 13)
(.seq (.reg [.s 2 (.mv (.c (.int .u8 114)))] [2])
.ret)
(.seq (.reg [.s 16 (.bin .eql .base (.t 3) (.c (.int .i64 0))),
.s 15 (.mv (.t 16))] [15])
(.cond (.t 15)
(.seq (.reg [.s 2 (.mv (.c (.int .u8 48)))] [2])
.ret)
.skip))))))))))))
(.seq (.reg [.s 2 (.mv (.c (.int .u8 0)))] [2])
.ret)))
theorem ok225 : FnOk Go.Proofs.Tryz.prog 225 ⟨17, [.t 2], S225⟩ :=
  FnOk.of [[0],[0,3],[0,3,4],[0,3,4],[2],[3,9],[2],[3,11],[2],[3,13],[2],[15],[2],[2]] Go.Proofs.Tryz.func225 (by kernel_rfl) (by kernel_rfl) (by kernel_rfl) (by kernel_rfl) (by kernel_rfl) (by kernel_rfl)
def S226 : S :=
(.seq (.reg [.s 2 (.mv (.c (.bool false)))] [0])
(.seq (.reg [.s 3 (.mv (.t 0)),
.s 4 (.call 252 [(.t 3)]),
.s 5 (.mv (.t 4)),
.y 6 (.mv (.t 0)) 5,
.y 7 (.bin .neq .base (.t 6) (.c (.int .i64 9))) 5,
.s 8 (.pick (.t 5) (.t 7) (.c (.bool false))),
.s 9 (.mv (.t 8)),
.y 10 (.mv (.t 0)) 9,
.y 11 (.bin .neq .base (.t 10) (.c (.int .i64 10))) 9,
.s 12 (.pick (.t 9) (.t 11) (.c (.bool false))),
.s 13 (.mv (.t 12)),
.y 14 (.mv (.t 0)) 13,
.y 15 (.bin .neq .base (.t 14) (.c (.int .i64 13))) 13,
.s 16 (.pick (.t 13) (.t 15) (.c (.bool false))),
.s 2 (.mv (.t 16))] [2])
.ret))
theorem ok226 : FnOk Go.Proofs.Tryz.prog 226 ⟨17, [.t 2], S226⟩ :=
  FnOk.of [[0],[2]] Go.Proofs.Tryz.func226 (by kernel_rfl) (by kernel_rfl) (by kernel_rfl) (by kernel_rfl) (by kernel_rfl) (by kernel_rfl)
def S227 : S :=
(.seq (.reg [.s 4 (.mv (.c (.int .i64 0))),
.s 5 (.mv (.c .nili))] [0,1])
(.seq (.reg [.s 7 (.mv (.t 0)),
.s 8 (.call 153 [(.t 7)])] [0,1])
(.seq (.reg [.s 9 (.mv (.t 0)),
.s 10 (.nck (.t 9)),
.s 11 (.fad 1 (.t 10)),
.s 12 (.ld 1 false (.t 11)),
.s 13 (.len 1 (.t 12)),
.s 6 (.mv (.t 13))] [6,0,1])
(.seq (.reg [.s 14 (.mv (.t 0)),
.s 15 (.mv (.t 0)),
.s 16 (.nck (.t 15)),
.s 17 (.fad 1 (.t 16)),
.s 18 (.ld 1 false (.t 17)),
.s 19 (.mv (.t 1)),
.s 20 (.call 253 [(.t 18),(.t 19)]),
.s 21 (.nck (.t 14)),
.s 22 (.fad 1 (.t 21)),
.n (.st 1 (.t 22) (.t 20))] [6,0])
(.seq (.reg [.s 23 (.mv (.t 0)),
.s 24 (.nck (.t 23)),
.s 25 (.fad 1 (.t 24)),
.s 26 (.ld 1 false (.t 25)),
.s 27 (.len 1 (.t 26)),
.s 28 (.mv (.t 6)),
.s 29 (.bin .sub .base (.t 27) (.t 28)),
.s 4 (.mv (.t 29)),
.s 5 (.mv (.c .nili))] [4,5])
.ret)))))
theorem ok227 : FnOk Go.Proofs.Tryz.prog 227 ⟨30, [.t 4,.t 5], S227⟩ :=
  FnOk.of [[0,1],[0,1],[6,0,1],[6,0],[4,5]] Go.Proofs.Tryz.func227 (by kernel_rfl) (by kernel_rfl) (by kernel_rfl) (by kernel_rfl) (by kernel_rfl) (by kernel_rfl)
def S228 : S :=
(.seq (.reg [.s 9 (.mv (.t 2)),
.s 10 (.call 254 [(.t 9),(.c (.int .i64 16))]),
.s 8 (.mv (.t 10))] [8,0,3,1])
(.seq (.reg [.s 11 (.mv (.t 0)),
.s 12 (.nck (.t 11)),
.s 13 (.fad 0 (.t 12)),
.s 14 (.call 107 [(.t 13),(.c (.int .u8 92))])] [8,0,3,1])
(.seq (.reg [.s 15 (.mv (.t 0)),
.s 16 (.nck (.t 15)),
.s 17 (.fad 0 (.t 16)),
.s 18 (.mv (.t 1)),
.s 19 (.call 107 [(.t 17),(.t 18)])] [8,0,3])
(.seq (.regD [(0, .s 20 (.mv (.t 0)), 0),
(1, .s 21 (.nck (.t 20)), 1),
(2, .s 22 (.fad 0 (.t 21)), 3),
(3, .s 23 (.mv (.t 3)), 0),
(4, .s 24 (.mv (.t 8)), 0),
(5, .s 25 (.len 0 (.t 24)), 16),
(6, .s 26 (.bin .sub .base (.t 23) (.t 25)), 56),
(7, .s 27 (.call 255 [(.c (.str [48])),(.t 26)]), 120),
(8, .s 28 (.call 108 [(.t 22),(.t 27)]), 255)] [8,0])
(.reg [.s 29 (.mv (.t 0)),
.s 30 (.nck (.t 29)),
.s 31 (.fad 0 (.t 30)),
.s 32 (.mv (.t 8)),
.s 33 (.call 108 [(.t 31),(.t 32)])] [])))))
theorem ok228 : FnOk Go.Proofs.Tryz.prog 228 ⟨34, [], S228⟩ :=
  FnOk.of [[8,0,3,1],[8,0,3,1],[8,0,3],[8,0],[]] Go.Proofs.Tryz.func228 (by kernel_rfl) (by kernel_rfl) (by kernel_rfl) (by kernel_rfl) (by kernel_rfl) (by kernel_rfl)
def S235 : S :=
(.seq (.reg [.s 2 (.mv (.c (.int .i64 0))),
.s 3 (.mv (.c (.int .i64 0)))] [0])
(.seq (.reg [.s 7 (.mv (.t 0)),
.s 8 (.call 222 [(.t 7)]),
.s 6 (.mv (.t 8)),
.s 9 (.ext (.t 6) 0),
.s 10 (.ext (.t 6) 1),
.s 4 (.mv (.t 9)),
.s 5 (.mv (.t 10))] [5,4])
(.seq (.seq (.reg [.s 11 (.mv (.t 4)),
.s 12 (.bin .eql .base (.t 11) (.c (.int .i32 65533))),
.s 13 (.mv (.t 12)),
.y 14 (.mv (.t 5)) 13,
.y 15 (.bin .lss .base (.t 14) (.c (.int .i64 3))) 13,
.s 16 (.pick (.t 13) (.t 15) (.c (.bool false)))] [5,4,16])
(.cond (.t 16)
(.seq (.reg [.s 17 (.mv (.t 5)),
.s 2 (.mv (.c (.int .i64 (-1)))),
.s 3 (.mv (.t 17))] [2,3])
.ret)
.skip))
(.seq (.reg [.s 18 (.mv (.t 4)),
.s 19 (.cvI .i64 (.t 18)),
.s 20 (.mv (.t 5)),
.s 2 (.mv (.t 19)),
.s 3 (.mv (.t 20))] [2,3])
.ret))))
theorem ok235 : FnOk Go.Proofs.Tryz.prog 235 ⟨21, [.t 2,.t 3], S235⟩ :=
  FnOk.of [[0],[5,4],[5,4,16],[2,3],[2,3]] Go.Proofs.Tryz.func235 (by kernel_rfl) (by kernel_rfl) (by kernel_rfl) (by kernel_rfl) (by kernel_rfl) (by kernel_rfl)
def S247 : S :=
(.seq (.reg [.s 2 (.mv (.c (.bool false)))] [0])
(.seq (.reg [.s 3 (.mv (.t 0)),
.s 4 (.mv (.t 0)),
.s 5 (.bin .sub .base (.t 4) (.c (.int .i64 1))),
.s 6 (.bin .and .base (.t 3) (.t 5)),
.s 7 (.bin .eql .base (.t 6) (.c (.int .i64 0))),
.s 2 (.mv (.t 7))] [2])
.ret))
theorem ok247 : FnOk Go.Proofs.Tryz.prog 247 ⟨8, [.t 2], S247⟩ :=
  FnOk.of [[0],[2]] Go.Proofs.Tryz.func247 (by kernel_rfl) (by kernel_rfl) (by kernel_rfl) (by kernel_rfl) (by kernel_rfl) (by kernel_rfl)
def S248 : S :=
(.seq (.reg [.s 2 (.mv (.c (.int .i64 0)))] [0])
(.seq (.cond (.c (.bool false))
(.seq (.reg [.s 3 (.mv (.t 0)),
.s 4 (.cvI .u32 (.t 3)),
.s 5 (.call 267 [(.t 4)]),
.s 2 (.mv (.t 5))] [2])
.ret)
.skip)
(.seq (.reg [.s 6 (.mv (.t 0)),
.s 7 (.call 268 [(.t 6)]),
.s 2 (.mv (.t 7))] [2])
.ret)))
theorem ok248 : FnOk Go.Proofs.Tryz.prog 248 ⟨8, [.t 2], S248⟩ :=
  FnOk.of [[0],[2],[2]] Go.Proofs.Tryz.func248 (by kernel_rfl) (by kernel_rfl) (by kernel_rfl) (by kernel_rfl) (by kernel_rfl) (by kernel_rfl)
def S252 : S :=
(.seq (.reg [.s 2 (.mv (.c (.bool false)))] [0])
(.seq (.block 0 (.seq (.reg [.s 4 (.mv (.t 0)),
.s 5 (.bin .lss .base (.t 4) (.c (.int .i64 32))),
.s 3 (.mv (.t 5))] [0,3])
(.cond (.t 3)
(.seq (.reg [.s 6 (.mv (.t 0)),
.s 7 (.bin .eql .base (.t 6) (.c (.int .i64 9))),
.s 8 (.mv (.t 7)),
.z 9 (.mv (.t 0)) 8,
.z 10 (.bin .eql .base (.t 9) (.c (.int .i64 10))) 8,
.s 11 (.pick (.t 8) (.c (.bool true)) (.t 10)),
.s 12 (.mv (.t 11)),
.z 13 (.mv (.t 0)) 12,
.z 14 (.bin .eql .base (.t 13) (.c (.int .i64 13))) 12,
.s 15 (.pick (.t 12) (.c (.bool true)) (.t 14)),
.s 2 (.mv (.t 15))] [2])
.ret)
(.seq (.reg [.s 17 (.mv (.t 0)),
.s 18 (.bin .lss .base (.t 17) (.c (.int .i64 127))),
.s 16 (.mv (.t 18))] [0,16])
(.cond (.t 16)
(.seq (.reg [.s 2 (.mv (.c (.bool true)))] [2])
.ret)
(.seq (.reg [.s 20 (.mv (.t 0)),
.s 21 (.bin .lss .base (.t 20) (.c (.int .i64 160))),
.s 19 (.mv (.t 21))] [0,19])
(.cond (.t 19)
(.seq (.reg [.s 22 (.mv (.t 0)),
.s 23 (.bin .eql .base (.t 22) (.c (.int .i64 133))),
.s 2 (.mv (.t 23))] [2])
.ret)
(.seq (.reg [.s 25 (.mv (.t 0)),
.s 26 (.bin .lss .base (.t 25) (.c (.int .i64 55296))),
.s 24 (.mv (.t 26))] [0,24])
(.cond (.t 24)
(.seq (.reg [.s 2 (.mv (.c (.bool true)))] [2])
.ret)
(.seq (.reg [.s 28 (.mv (.t 0)),
.s 29 (.bin .lss .base (.t 28) (.c (.int .i64 65536))),
.s 27 (.mv (.t 29))] [0,27])
(.cond (.t 27)
(.seq (.reg [.s 30 (.mv (.t 0)),
.s 31 (.bin .geq .base (.t 30) (.c (.int .i64 57344))),
.s 32 (.mv (.t 31)),
.y 33 (.mv (.t 0)) 32,
.y 34 (.bin .leq .base (.t 33) (.c (.int .i64 65533))) 32,
.s 35 (.pick (.t 32) (.t 34) (.c (.bool false))),
.s 36 (.mv (.t 35)),
.y 37 (.mv (.t 0)) 36,
.y 38 (.bin .neq .base (.t 37) (.c (.int .i64 65279))) 36,
.s 39 (.pick (.t 36) (.t 38) (.c (.bool false))),
.s 2 (.mv (.t 39))] [2])
.ret)
.skip)))))))))))
(.seq (.reg [.s 40 (.mv (.t 0)),
.s 41 (.bin .leq .base (.t 40) (.c (.int .i64 1114111))),
.s 2 (.mv (.t 41))] [2])
.ret)))
theorem ok252 : FnOk Go.Proofs.Tryz.prog 252 ⟨42, [.t 2], S252⟩ :=
  FnOk.of [[0],[0,3],[2],[0,16],[2],[0,19],[2],[0,24],[2],[0,27],[2],[2]] Go.Proofs.Tryz.func252 (by kernel_rfl) (by kernel_rfl) (by kernel_rfl) (by kernel_rfl) (by kernel_rfl) (by kernel_rfl)
def S253 : S :=
(.seq (.reg [.s 4 (.mv (.c .nils))] [1,0])
(.seq (.seq (.reg [.s 5 (.mv (.t 1)),
.s 6 (.cvI .u32 (.t 5)),
.s 7 (.bin .leq .base (.t 6) (.c (.int .u32 127)))] [1,0,7])
(.cond (.t 7)
(.seq (.reg [.s 8 (.mv (.t 0)),
.s 9 (.mv (.t 1)),
.s 10 (.cvI .u8 (.t 9)),
.s 11 (.bsl 1 5 [(.int .u8 0)] 1 [(0,(.t 10))]),
.s 12 (.ap 1 1 5 (.t 8) (.t 11)),
.s 4 (.mv (.t 12))] [4])
.ret)
.skip))
(.seq (.reg [.s 13 (.mv (.t 0)),
.s 14 (.mv (.t 1)),
.s 15 (.call 271 [(.t 13),(.t 14)]),
.s 4 (.mv (.t 15))] [4])
.ret)))
theorem ok253 : FnOk Go.Proofs.Tryz.prog 253 ⟨16, [.t 4], S253⟩ :=
  FnOk.of [[1,0],[1,0,7],[4],[4]] Go.Proofs.Tryz.func253 (by kernel_rfl) (by kernel_rfl) (by kernel_rfl) (by kernel_rfl) (by kernel_rfl) (by kernel_rfl)
def S254 : S :=
(.seq (.reg [.s 4 (.mv (.c (.str [])))] [1,0])
(.seq (.reg [.s 5 (.mv (.t 0)),
.s 6 (.mv (.t 1)),
.s 7 (.call 190 [(.t 5),(.t 6)]),
.s 4 (.mv (.t 7))] [4])
.ret))
theorem ok254 : FnOk Go.Proofs.Tryz.prog 254 ⟨8, [.t 4], S254⟩ :=
  FnOk.of [[1,0],[4]] Go.Proofs.Tryz.func254 (by kernel_rfl) (by kernel_rfl) (by kernel_rfl) (by kernel_rfl) (by kernel_rfl) (by kernel_rfl)
def S268 : S :=
(.seq (.reg [.s 2 (.mv (.c (.int .i64 0)))] [0])
(.seq (.seq (.reg [.s 3 (.mv (.t 0)),
.s 4 (.bin .eql .base (.t 3) (.c (.int .u64 0)))] [0,4])
(.cond (.t 4)
(.seq (.reg [.s 2 (.mv (.c (.int .i64 64)))] [2])
.ret)
.skip))
(.seq (.reg [.s 5 (.mv (.t 0)),
.s 6 (.mv (.t 0)),
.s 7 (.un .neg (.t 6)),
.s 8 (.bin .and .base (.t 5) (.t 7)),
.s 9 (.bin .mul .base (.t 8) (.c (.int .u64 285870213051353865))),
.s 10 (.bin .shr .base (.t 9) (.c (.int .u64 58))),
.s 11 (.iadA 64 1 (.g 7) (.t 10)),
.s 12 (.ld 1 false (.t 11)),
.s 13 (.cvI .i64 (.t 12)),
.s 2 (.mv (.t 13))] [2])
.ret)))
theorem ok268 : FnOk Go.Proofs.Tryz.prog 268 ⟨14, [.t 2], S268⟩ :=
  FnOk.of [[0],[0,4],[2],[2]] Go.Proofs.Tryz.func268 (by kernel_rfl) (by kernel_rfl) (by kernel_rfl) (by kernel_rfl) (by kernel_rfl) (by kernel_rfl)
def S271 : S :=
(.seq (.reg [.s 4 (.mv (.c .nils))] [1,0])
(.seq (.reg [.s 6 (.mv (.t 1)),
.s 7 (.cvI .u32 (.t 6)),
.s 5 (.mv (.t 7))] [1,0,5])
(.block 0 (.seq (.reg [.s 12 (.mv (.t 5)),
.s 13 (.bin .leq .base (.t 12) (.c (.int .u32 2047))),
.s 11 (.mv (.t 13))] [1,0,5,11])
(.cond (.t 11)
(.seq (.reg [.s 14 (.mv (.t 0)),
.s 15 (.mv (.t 1)),
.s 16 (.bin .shr .base (.t 15) (.c (.int .u64 6))),
.s 17 (.cvI .u8 (.t 16)),
.s 18 (.bin .or .base (.c (.int .u8 192)) (.t 17)),
.s 19 (.mv (.t 1)),
.s 20 (.cvI .u8 (.t 19)),
.s 21 (.bin .and .base (.t 20) (.c (.int .u8 63))),
.s 22 (.bin .or .base (.c (.int .u8 128)) (.t 21)),
.s 23 (.bsl 1 5 [(.int .u8 0)] 2 [(0,(.t 18)),(1,(.t 22))]),
.s 24 (.ap 1 1 5 (.t 14) (.t 23)),
.s 4 (.mv (.t 24))] [4])
.ret)
(.seq (.seq (.reg [.s 26 (.mv (.t 5)),
.s 27 (.bin .lss .base (.t 26) (.c (.int .u32 55296))),
.s 25 (.mv (.t 27))] [1,0,5,25])
(.cond (.t 25)
.skip
(.reg [.s 28 (.mv (.t 5)),
.s 29 (.bin .lss .base (.c (.int .u32 57343)) (.t 28)),
.s 30 (.mv (.t 29)),
.y 31 (.mv (.t 5)) 30,
.y 32 (.bin .leq .base (.t 31) (.c (.int .u32 65535))) 30,
.s 33 (.pick (.t 30) (.t 32) (.c (.bool false))),
.s 25 (.mv (.t 33))] [1,0,5,25])))
(.cond (.t 25)
(.seq (.reg [.s 34 (.mv (.t 0)),
.s 35 (.mv (.t 1)),
.s 36 (.bin .shr .base (.t 35) (.c (.int .u64 12))),
.s 37 (.cvI .u8 (.t 36)),
.s 38 (.bin .or .base (.c (.int .u8 224)) (.t 37)),
.s 39 (.mv (.t 1)),
.s 40 (.bin .shr .base (.t 39) (.c (.int .u64 6))),
.s 41 (.cvI .u8 (.t 40)),
.s 42 (.bin .and .base (.t 41) (.c (.int .u8 63))),
.s 43 (.bin .or .base (.c (.int .u8 128)) (.t 42)),
.s 44 (.mv (.t 1)),
.s 45 (.cvI .u8 (.t 44)),
.s 46 (.bin .and .base (.t 45) (.c (.int .u8 63))),
.s 47 (.bin .or .base (.c (.int .u8 128)) (.t 46)),
.s 48 (.bsl 1 5 [(.int .u8 0)] 3 [(0,(.t 38)),(1,(.t 43)),(2,(.t 47))]),
.s 49 (.ap 1 1 5 (.t 34) (.t 48)),
.s 4 (.mv (.t 49))] [4])
.ret)
(.seq (.reg [.s 51 (.mv (.t 5)),
.s 52 (.bin .gtr .base (.t 51) (.c (.int .u32 65535))),
.s 53 (.mv (.t 52)),
.y 54 (.mv (.t 5)) 53,
.y 55 (.bin .leq .base (.t 54) (.c (.int .u32 1114111))) 53,
.s 56 (.pick (.t 53) (.t 55) (.c (.bool false))),
.s 50 (.mv (.t 56))] [1,0,50])
(.cond (.t 50)
(.seq (.reg [.s 57 (.mv (.t 0)),
.s 58 (.mv (.t 1)),
.s 59 (.bin .shr .base (.t 58) (.c (.int .u64 18))),
.s 60 (.cvI .u8 (.t 59)),
.s 61 (.bin .or .base (.c (.int .u8 240)) (.t 60)),
.s 62 (.mv (.t 1)),
.s 63 (.bin .shr .base (.t 62) (.c (.int .u64 12))),
.s 64 (.cvI .u8 (.t 63)),
.s 65 (.bin .and .base (.t 64) (.c (.int .u8 63))),
.s 66 (.bin .or .base (.c (.int .u8 128)) (.t 65)),
.s 67 (.mv (.t 1)),
.s 68 (.bin .shr .base (.t 67) (.c (.int .u64 6))),
.s 69 (.cvI .u8 (.t 68)),
.s 70 (.bin .and .base (.t 69) (.c (.int .u8 63))),
.s 71 (.bin .or .base (.c (.int .u8 128)) (.t 70)),
.s 72 (.mv (.t 1)),
.s 73 (.cvI .u8 (.t 72)),
.s 74 (.bin .and .base (.t 73) (.c (.int .u8 63))),
.s 75 (.bin .or .base (.c (.int .u8 128)) (.t 74)),
.s 76 (.bsl 1 5 [(.int .u8 0)] 4 [(0,(.t 61)),(1,(.t 66)),(2,(.t 71)),(3,(.t 75))]),
.s 77 (.ap 1 1 5 (.t 57) (.t 76)),
.s 4 (.mv (.t 77))] [4])
.ret)
(.seq (.reg [.s 8 (.mv (.t 0)),
.s 9 (.bsl 1 5 [(.int .u8 0)] 3 [(0,(.c (.int .u8 239))),(1,(.c (.int .u8 191))),(2,(.c (.int .u8 189)))]),
.s 10 (.ap 1 1 5 (.t 8) (.t 9)),
.s 4 (.mv (.t 10))] [4])
.ret))))))))))
theorem ok271 : FnOk Go.Proofs.Tryz.prog 271 ⟨78, [.t 4], S271⟩ :=
  FnOk.of [[1,0],[1,0,5],[1,0,5,11],[4],[1,0,5,25],[1,0,5,25],[4],[1,0,50],[4],[4]] Go.Proofs.Tryz.func271 (by kernel_rfl) (by kernel_rfl) (by kernel_rfl) (by kernel_rfl) (by kernel_rfl) (by kernel_rfl)
end Go.Eng.Tryz
namespace Go.Eng.Tryz
open Go.Eng
def S3 : S :=
(.seq (.reg [.s 3 (.box 2 24 (.t 0)),
.s 6 (.mv (.c (.bool false)))] [2,1,3])
(.seq (.seq (.reg [.s 11 (.ld 2 true (.t 3)),
.s 12 (.call 14 [(.t 11)]),
.s 13 (.mv (.t 12)),
.z 14 (.mv (.t 1)) 13,
.z 15 (.call 15 [(.t 14)]) 13,
.s 16 (.pick (.t 13) (.c (.bool true)) (.t 15)),
.s 17 (.mv (.t 16)),
.z 18 (.mv (.t 2)) 17,
.z 19 (.call 16 [(.t 18)]) 17,
.s 20 (.pick (.t 17) (.c (.bool true)) (.t 19))] [2,1,3,20])
(.cond (.t 20)
(.seq (.reg [.s 21 (.call 17 []),
.s 6 (.mv (.t 21))] [6])
.ret)
.skip))
(.seq (.regD [(0, .s 23 (.ld 2 true (.t 3)), 0),
(1, .s 24 (.mv (.t 1)), 0),
(3, .s 26 (.mv (.t 2)), 0),
(2, .s 25 (.call 19 [(.t 24)]), 2),
(4, .s 27 (.call 20 [(.t 26)]), 14),
(5, .s 28 (.call 18 [(.t 23),(.t 25),(.t 27)]), 31),
(6, .s 22 (.mv (.t 28)), 63),
(7, .s 29 (.ext (.t 22) 0), 127),
(8, .s 30 (.ext (.t 22) 1), 127),
(9, .s 7 (.mv (.t 29)), 255),
(10, .s 8 (.mv (.t 30)), 1023)] [8,7,2,1,3])
(.seq (.reg [.s 32 (.ld 2 true (.t 3)),
.s 33 (.mv (.t 1)),
.s 34 (.mv (.t 2)),
.s 35 (.call 21 [(.t 32),(.t 33),(.t 34)]),
.s 31 (.mv (.t 35)),
.s 36 (.ext (.t 31) 0),
.s 37 (.ext (.t 31) 1),
.s 9 (.mv (.t 36)),
.s 10 (.mv (.t 37))] [10,8,9,7])
(.seq (.reg [.s 38 (.mv (.t 7)),
.s 39 (.mv (.t 9)),
.s 40 (.bin .eql .bool (.t 38) (.t 39)),
.s 41 (.mv (.t 40)),
.y 42 (.mv (.t 8)) 41,
.y 43 (.mv (.t 10)) 41,
.y 44 (.bin .eql .base (.t 42) (.t 43)) 41,
.s 45 (.pick (.t 41) (.t 44) (.c (.bool false))),
.s 46 (.mv (.t 45)),
.y 47 (.call 17 []) 46,
.s 48 (.pick (.t 46) (.t 47) (.c (.bool false))),
.s 6 (.mv (.t 48))] [6])
.ret)))))
theorem ok3 : FnOk Go.Proofs.Tryz.prog 3 ⟨49, [.t 6], S3⟩ :=
  FnOk.of [[2,1,3],[2,1,3,20],[6],[8,7,2,1,3],[10,8,9,7],[6]] Go.Proofs.Tryz.func3 (by kernel_rfl) (by kernel_rfl) (by kernel_rfl) (by kernel_rfl) (by kernel_rfl) (by kernel_rfl)
def S4 : S :=
(.seq (.reg [.s 2 (.box 2 24 (.t 0)),
.s 4 (.mv (.c (.bool false)))] [1,2])
(.seq (.seq (.reg [.s 23 (.ld 2 true (.t 2)),
.s 24 (.call 14 [(.t 23)]),
.s 25 (.mv (.t 24)),
.z 26 (.mv (.t 1)) 25,
.z 27 (.call 15 [(.t 26)]) 25,
.s 28 (.pick (.t 25) (.c (.bool true)) (.t 27))] [1,2,28])
(.cond (.t 28)
(.seq (.reg [.s 29 (.call 17 []),
.s 4 (.mv (.t 29))] [4])
.ret)
.skip))
(.seq (.regD [(0, .s 31 (.ld 2 true (.t 2)), 0),
(1, .s 32 (.mv (.t 1)), 0),
(2, .s 33 (.call 19 [(.t 32)]), 2),
(3, .s 34 (.call 22 [(.t 31),(.t 33)]), 7),
(4, .s 30 (.mv (.t 34)), 15),
(5, .s 35 (.ext (.t 30) 0), 31),
(6, .s 36 (.ext (.t 30) 1), 31),
(7, .s 5 (.mv (.t 35)), 63),
(8, .s 6 (.mv (.t 36)), 255)] [6,5,1,2])
(.seq (.reg [.s 38 (.ld 2 true (.t 2)),
.s 39 (.bld [(.int .i64 0),(.str []),(.str []),(.int .i64 0)] [(0,1,(.c (.int .i64 3)))]),
.s 40 (.bsl 4 45 [(.int .i64 0),(.str []),(.str []),(.int .i64 0)] 1 [(0,(.t 39))]),
.s 41 (.call 22 [(.t 38),(.t 40)]),
.s 37 (.mv (.t 41)),
.s 42 (.ext (.t 37) 0),
.s 43 (.ext (.t 37) 1),
.s 7 (.mv (.t 42)),
.s 8 (.mv (.t 43))] [6,5,7,1,2,8])
(.seq (.seq (.reg [.s 44 (.mv (.t 6)),
.s 45 (.bin .neq .base (.t 44) (.c (.int .i64 0))),
.s 46 (.mv (.t 45)),
.z 47 (.mv (.t 8)) 46,
.z 48 (.bin .neq .base (.t 47) (.c (.int .i64 0))) 46,
.s 49 (.pick (.t 46) (.c (.bool true)) (.t 48))] [6,5,7,1,2,49])
(.cond (.t 49)
(.seq (.reg [.s 50 (.mv (.t 5)),
.s 51 (.len 1 (.t 50)),
.s 52 (.bin .eql .base (.t 51) (.c (.int .i64 0))),
.s 53 (.mv (.t 52)),
.z 54 (.mv (.t 6)) 53,
.z 55 (.bin .eql .base (.t 54) (.c (.int .i64 0))) 53,
.s 56 (.pick (.t 53) (.c (.bool true)) (.t 55)),
.s 57 (.mv (.t 56)),
.y 58 (.call 17 []) 57,
.s 59 (.pick (.t 57) (.t 58) (.c (.bool false))),
.s 4 (.mv (.t 59))] [4])
.ret)
.skip))
(.seq (.reg [.s 9 (.mv (.c (.int .i64 0)))] [9,7,1,2,5])
(.seq (.seq (.reg [.s 60 (.mv (.t 5)),
.s 61 (.len 1 (.t 60)),
.s 62 (.mv (.c (.int .i64 0)))] [9,62,7,1,2,60,5,61])
(.block 0 (.loop (.seq (.reg [.s 63 (.bin .lss .base (.t 62) (.t 61))] [9,7,1,2,60,5,61,62,63])
(.seq (.cond (.t 63)
.skip
(.exit 0))
(.seq (.block 1 (.seq (.reg [.s 64 (.iad 1 (.t 60) (.t 62)),
.s 65 (.ld 1 false (.t 64)),
.s 11 (.mv (.t 65))] [9,7,1,2,60,5,61,62,11])
(.seq (.regD [(0, .s 67 (.ld 2 true (.t 2)), 0),
(1, .s 68 (.mv (.t 1)), 0),
(3, .s 70 (.mv (.t 11)), 0),
(2, .s 69 (.call 19 [(.t 68)]), 2),
(4, .s 71 (.call 18 [(.t 67),(.t 69),(.t 70)]), 15),
(5, .s 66 (.mv (.t 71)), 31),
(6, .s 72 (.ext (.t 66) 0), 63),
(7, .s 73 (.ext (.t 66) 1), 63),
(8, .s 12 (.mv (.t 72)), 127),
(9, .s 13 (.mv (.t 73)), 511)] [9,7,1,2,60,5,61,62,11,13,12])
(.seq (.seq (.reg [.s 74 (.mv (.t 12)),
.s 75 (.un .not (.t 74)),
.s 76 (.mv (.t 75)),
.z 77 (.mv (.t 13)) 76,
.z 78 (.bin .neq .base (.t 77) (.c (.int .i64 0))) 76,
.s 79 (.pick (.t 76) (.c (.bool true)) (.t 78))] [9,7,1,2,60,5,61,62,11,79])
(.cond (.t 79)
(.seq (.reg [.s 4 (.mv (.c (.bool false)))] [4])
.ret)
.skip))
(.seq (.block 2 (.loop (.seq (.seq (.reg [.s 80 (.mv (.t 9)),
.s 81 (.mv (.t 7)),
.s 82 (.len 1 (.t 81)),
.s 83 (.bin .lss .base (.t 80) (.t 82)),
.s 84 (.mv (.t 83)),
.y 85 (.mv (.t 7)) 84,
.y 86 (.mv (.t 9)) 84,
.y 87 (.iad 1 (.t 85) (.t 86)) 84,
.y 88 (.ld 1 false (.t 87)) 84,
.y 89 (.mv (.t 11)) 84,
.y 90 (.call 23 [(.t 88),(.t 89)]) 84,
.y 91 (.un .not (.t 90)) 84,
.s 92 (.pick (.t 84) (.t 91) (.c (.bool false)))] [7,1,2,60,5,61,62,11,9,92])
(.cond (.t 92)
.skip
(.exit 2)))
(.block 3 (.reg [.s 93 (.mv (.t 9)),
.s 94 (.bin .add .base (.t 93) (.c (.int .i64 1))),
.s 9 (.mv (.t 94))] [9,7,1,2,60,5,61,62,11])))))
(.seq (.seq (.reg [.s 95 (.mv (.t 9)),
.s 96 (.mv (.t 7)),
.s 97 (.len 1 (.t 96)),
.s 98 (.bin .eql .base (.t 95) (.t 97))] [7,1,2,60,5,61,62,9,98])
(.cond (.t 98)
(.seq (.reg [.s 4 (.mv (.c (.bool false)))] [4])
.ret)
.skip))
(.reg [.s 99 (.mv (.t 9)),
.s 100 (.bin .add .base (.t 99) (.c (.int .i64 1))),
.s 9 (.mv (.t 100))] [9,7,1,2,60,5,61,62])))))))
(.reg [.s 101 (.bin .add .base (.t 62) (.c (.int .i64 1))),
.s 62 (.mv (.t 101))] [9,62,7,1,2,60,5,61])))))))
(.seq (.reg [.s 14 (.mv (.c (.int .i64 0)))] [2,14,1,5,7])
(.seq (.seq (.reg [.s 102 (.mv (.t 7)),
.s 103 (.len 1 (.t 102)),
.s 104 (.mv (.c (.int .i64 0)))] [2,104,14,1,102,5,103])
(.block 4 (.loop (.seq (.reg [.s 105 (.bin .lss .base (.t 104) (.t 103))] [2,1,102,5,103,104,14,105])
(.seq (.cond (.t 105)
.skip
(.exit 4))
(.seq (.block 5 (.seq (.reg [.s 106 (.iad 1 (.t 102) (.t 104)),
.s 107 (.ld 1 false (.t 106)),
.s 16 (.mv (.t 107))] [16,2,1,102,5,103,104,14])
(.seq (.seq (.regD [(0, .s 109 (.ld 2 true (.t 2)), 0),
(1, .s 110 (.mv (.t 1)), 0),
(3, .s 112 (.mv (.t 16)), 0),
(2, .s 111 (.call 19 [(.t 110)]), 2),
(4, .s 113 (.call 18 [(.t 109),(.t 111),(.t 112)]), 15),
(5, .s 108 (.mv (.t 113)), 31),
(6, .s 114 (.ext (.t 108) 0), 63),
(7, .s 115 (.ext (.t 108) 1), 63),
(8, .s 17 (.mv (.t 114)), 127),
(9, .s 18 (.mv (.t 115)), 511)] [16,2,1,102,5,103,104,14,17,18])
(.seq (.reg [.s 116 (.mv (.t 18)),
.s 117 (.bin .neq .base (.t 116) (.c (.int .i64 0)))] [16,2,1,102,5,103,104,14,17,117])
(.cond (.t 117)
(.seq (.reg [.s 4 (.mv (.c (.bool false)))] [4])
.ret)
(.seq (.reg [.s 118 (.mv (.t 17))] [16,2,1,102,5,103,104,14,118])
(.cond (.t 118)
(.reg [.s 119 (.mv (.t 14)),
.s 120 (.bin .add .base (.t 119) (.c (.int .i64 1))),
.s 14 (.mv (.t 120))] [16,2,14,1,102,5,103,104])
.skip)))))
(.seq (.reg [.s 121 (.mkM),
.s 122 (.fad 1 (.t 2)),
.s 123 (.ld 1 false (.t 122)),
.n (.up (.one .int) (.t 121) (.t 123) (.c (.bool true))),
.s 124 (.mv (.t 121)),
.s 19 (.mv (.t 124))] [19,16,2,14,1,102,5,103,104])
(.seq (.reg [.s 125 (.mv (.t 16)),
.s 126 (.len 1 (.t 125)),
.s 127 (.mv (.c (.int .i64 0)))] [127,19,16,2,14,1,102,5,103,104,126])
(.block 6 (.loop (.seq (.reg [.s 128 (.bin .lss .base (.t 127) (.t 126))] [19,16,2,14,1,102,5,103,104,126,127,128])
(.seq (.cond (.t 128)
.skip
(.exit 6))
(.seq (.block 7 (.seq (.reg [.s 129 (.mv (.t 127)),
.s 20 (.mv (.t 129))] [19,16,2,14,1,102,5,103,104,126,127,20])
(.seq (.regD [(0, .s 131 (.ld 2 true (.t 2)), 0),
(1, .s 132 (.mv (.t 16)), 0),
(2, .s 133 (.mv (.t 20)), 0),
(3, .s 134 (.bin .add .base (.t 133) (.c (.int .i64 1))), 4),
(4, .s 135 (.sL 3 (.t 132) none (some (.t 134)) none), 14),
(5, .s 136 (.call 24 [(.t 131),(.t 135)]), 31),
(6, .s 130 (.mv (.t 136)), 63),
(7, .s 137 (.ext (.t 130) 0), 127),
(8, .s 138 (.ext (.t 130) 1), 127),
(9, .s 21 (.mv (.t 137)), 255),
(10, .s 22 (.mv (.t 138)), 1023)] [19,16,2,14,1,102,5,103,104,126,127,21,22])
(.seq (.seq (.reg [.s 139 (.mv (.t 22)),
.s 140 (.bin .neq .base (.t 139) (.c (.int .i64 0))),
.s 141 (.mv (.t 140)),
.z 142 (.mv (.t 19)) 141,
.z 143 (.mv (.t 21)) 141,
.z 144 (.lk (.one .int) (.bool false) false (.t 142) (.t 143)) 141,
.s 145 (.pick (.t 141) (.c (.bool true)) (.t 144))] [19,16,2,14,1,102,5,103,104,126,127,21,145])
(.cond (.t 145)
(.seq (.reg [.s 4 (.mv (.c (.bool false)))] [4])
.ret)
.skip))
(.reg [.s 146 (.mv (.t 19)),
.s 147 (.mv (.t 21)),
.n (.up (.one .int) (.t 146) (.t 147) (.c (.bool true)))] [19,16,2,14,1,102,5,103,104,126,127])))))
(.reg [.s 148 (.bin .add .base (.t 127) (.c (.int .i64 1))),
.s 127 (.mv (.t 148))] [127,19,16,2,14,1,102,5,103,104,126])))))))))))
(.reg [.s 149 (.bin .add .base (.t 104) (.c (.int .i64 1))),
.s 104 (.mv (.t 149))] [2,104,14,1,102,5,103])))))))
(.seq (.reg [.s 150 (.mv (.t 14)),
.s 151 (.mv (.t 5)),
.s 152 (.len 1 (.t 151)),
.s 153 (.bin .eql .base (.t 150) (.t 152)),
.s 154 (.mv (.t 153)),
.y 155 (.call 17 []) 154,
.s 156 (.pick (.t 154) (.t 155) (.c (.bool false))),
.s 4 (.mv (.t 156))] [4])
.ret))))))))))
theorem ok4 : FnOk Go.Proofs.Tryz.prog 4 ⟨157, [.t 4], S4⟩ :=
  FnOk.of [[1,2],[1,2,28],[4],[6,5,1,2],[6,5,7,1,2,8],[6,5,7,1,2,49],[4],[9,7,1,2,5],[9,62,7,1,2,60,5,61],[9,7,1,2,60,5,61,62,63],[9,7,1,2,60,5,61,62,11],[9,7,1,2,60,5,61,62,11,13,12],[9,7,1,2,60,5,61,62,11,79],[4],[7,1,2,60,5,61,62,11,9,92],[9,7,1,2,60,5,61,62,11],[7,1,2,60,5,61,62,9,98],[4],[9,7,1,2,60,5,61,62],[9,62,7,1,2,60,5,61],[2,14,1,5,7],[2,104,14,1,102,5,103],[2,1,102,5,103,104,14,105],[16,2,1,102,5,103,104,14],[16,2,1,102,5,103,104,14,17,18],[16,2,1,102,5,103,104,14,17,117],[4],[16,2,1,102,5,103,104,14,118],[16,2,14,1,102,5,103,104],[19,16,2,14,1,102,5,103,104],[127,19,16,2,14,1,102,5,103,104,126],[19,16,2,14,1,102,5,103,104,126,127,128],[19,16,2,14,1,102,5,103,104,126,127,20],[19,16,2,14,1,102,5,103,104,126,127,21,22],[19,16,2,14,1,102,5,103,104,126,127,21,145],[4],[19,16,2,14,1,102,5,103,104,126,127],[127,19,16,2,14,1,102,5,103,104,126],[2,104,14,1,102,5,103],[4]] Go.Proofs.Tryz.func4 (by kernel_rfl) (by kernel_rfl) (by kernel_rfl) (by kernel_rfl) (by kernel_rfl) (by kernel_rfl)
def S14 : S :=
(.seq (.reg [.s 1 (.box 2 24 (.t 0)),
.s 2 (.mv (.c (.bool false)))] [1])
(.seq (.reg [.s 3 (.mv (.c (.int .i64 0)))] [3,1])
(.seq (.seq (.reg [.s 6 (.fad 0 (.t 1)),
.s 7 (.ld 1 false (.t 6)),
.s 8 (.fad 0 (.t 1)),
.s 9 (.ld 1 false (.t 8)),
.s 10 (.len 1 (.t 9)),
.s 11 (.mn [(.t 10),(.c (.int .i64 40))]),
.s 12 (.sL 3 (.t 7) none (some (.t 11)) none),
.s 13 (.len 1 (.t 12)),
.s 14 (.mv (.c (.int .i64 0)))] [14,3,12,1,13])
(.block 0 (.loop (.seq (.reg [.s 15 (.bin .lss .base (.t 14) (.t 13))] [12,1,13,14,3,15])
(.seq (.cond (.t 15)
.skip
(.exit 0))
(.seq (.block 1 (.seq (.reg [.s 16 (.iad 3 (.t 12) (.t 14)),
.s 17 (.ld 3 true (.t 16)),
.s 5 (.new [(.int .i64 0),(.str []),.nils] 68),
.n (.st 3 (.t 5) (.t 17))] [12,1,13,14,5,3])
(.reg [.s 18 (.mv (.t 3)),
.s 19 (.fad 2 (.t 5)),
.s 20 (.ld 1 false (.t 19)),
.s 21 (.len 1 (.t 20)),
.s 22 (.mn [(.t 21),(.c (.int .i64 500))]),
.s 23 (.fad 1 (.t 5)),
.s 24 (.ld 1 false (.t 23)),
.s 25 (.len 0 (.t 24)),
.s 26 (.mn [(.t 25),(.c (.int .i64 2000))]),
.s 27 (.bin .add .base (.t 22) (.t 26)),
.s 28 (.bin .add .base (.t 18) (.t 27)),
.s 3 (.mv (.t 28))] [3,12,1,13,14])))
(.reg [.s 29 (.bin .add .base (.t 14) (.c (.int .i64 1))),
.s 14 (.mv (.t 29))] [14,3,12,1,13])))))))
(.seq (.reg [.s 30 (.fad 0 (.t 1)),
.s 31 (.ld 1 false (.t 30)),
.s 32 (.len 1 (.t 31)),
.s 33 (.bin .gtr .base (.t 32) (.c (.int .i64 40))),
.s 34 (.mv (.t 33)),
.y 35 (.fad 0 (.t 1)) 34,
.y 36 (.ld 1 false (.t 35)) 34,
.y 37 (.len 1 (.t 36)) 34,
.y 38 (.bin .leq .base (.t 37) (.c (.int .i64 4096))) 34,
.s 39 (.pick (.t 34) (.t 38) (.c (.bool false))),
.s 40 (.mv (.t 39)),
.z 41 (.mv (.t 3)) 40,
.z 42 (.bin .gtr .base (.t 41) (.c (.int .i64 150))) 40,
.s 43 (.pick (.t 40) (.c (.bool true)) (.t 42)),
.s 2 (.mv (.t 43))] [2])
.ret))))
theorem ok14 : FnOk Go.Proofs.Tryz.prog 14 ⟨44, [.t 2], S14⟩ :=
  FnOk.of [[1],[3,1],[14,3,12,1,13],[12,1,13,14,3,15],[12,1,13,14,5,3],[3,12,1,13,14],[14,3,12,1,13],[2]] Go.Proofs.Tryz.func14 (by kernel_rfl) (by kernel_rfl) (by kernel_rfl) (by kernel_rfl) (by kernel_rfl) (by kernel_rfl)
def S15 : S :=
(.seq (.reg [.s 2 (.mv (.c (.bool false)))] [0])
(.seq (.reg [.s 3 (.mv (.c (.int .i64 0))),
.s 4 (.mv (.c (.int .i64 0)))] [4,3,0])
(.seq (.seq (.reg [.s 7 (.mv (.t 0)),
.s 8 (.mv (.t 0)),
.s 9 (.len 1 (.t 8)),
.s 10 (.mn [(.t 9),(.c (.int .i64 40))]),
.s 11 (.sL 4 (.t 7) none (some (.t 10)) none),
.s 12 (.len 1 (.t 11)),
.s 13 (.mv (.c (.int .i64 0)))] [13,4,3,11,0,12])
(.block 0 (.loop (.seq (.reg [.s 14 (.bin .lss .base (.t 13) (.t 12))] [11,0,12,13,4,3,14])
(.seq (.cond (.t 14)
.skip
(.exit 0))
(.seq (.block 1 (.seq (.reg [.s 15 (.iad 4 (.t 11) (.t 13)),
.s 16 (.ld 4 true (.t 15)),
.s 6 (.new [(.int .i64 0),(.str []),(.str []),(.int .i64 0)] 77),
.n (.st 4 (.t 6) (.t 16))] [11,0,12,13,4,6,3])
(.seq (.reg [.s 17 (.mv (.t 3)),
.s 18 (.fad 1 (.t 6)),
.s 19 (.ld 1 false (.t 18)),
.s 20 (.len 0 (.t 19)),
.s 21 (.mn [(.t 20),(.c (.int .i64 5000))]),
.s 22 (.fad 2 (.t 6)),
.s 23 (.ld 1 false (.t 22)),
.s 24 (.len 0 (.t 23)),
.s 25 (.mn [(.t 24),(.c (.int .i64 5000))]),
.s 26 (.bin .add .base (.t 21) (.t 25)),
.s 27 (.bin .add .base (.t 17) (.t 26)),
.s 3 (.mv (.t 27))] [3,11,0,12,13,4,6])
(.seq (.reg [.s 28 (.fad 0 (.t 6)),
.s 29 (.ld 1 false (.t 28)),
.s 30 (.bin .eql .base (.t 29) (.c (.int .i64 3)))] [3,11,0,12,13,4,30])
(.cond (.t 30)
(.reg [.s 31 (.mv (.t 4)),
.s 32 (.bin .add .base (.t 31) (.c (.int .i64 1))),
.s 4 (.mv (.t 32))] [4,3,11,0,12,13])
.skip)))))
(.reg [.s 33 (.bin .add .base (.t 13) (.c (.int .i64 1))),
.s 13 (.mv (.t 33))] [13,4,3,11,0,12])))))))
(.seq (.reg [.s 34 (.mv (.t 0)),
.s 35 (.len 1 (.t 34)),
.s 36 (.bin .gtr .base (.t 35) (.c (.int .i64 40))),
.s 37 (.mv (.t 36)),
.z 38 (.mv (.t 3)) 37,
.z 39 (.bin .gtr .base (.t 38) (.c (.int .i64 20000))) 37,
.s 40 (.pick (.t 37) (.c (.bool true)) (.t 39)),
.s 41 (.mv (.t 40)),
.z 42 (.mv (.t 4)) 41,
.z 43 (.bin .gtr .base (.t 42) (.c (.int .i64 3))) 41,
.z 44 (.mv (.t 43)) 41,
.y 45 (.mv (.t 0)) 44,
.y 46 (.len 1 (.t 45)) 44,
.y 47 (.bin .leq .base (.t 46) (.c (.int .i64 32))) 44,
.z 48 (.pick (.t 44) (.t 47) (.c (.bool false))) 41,
.s 49 (.pick (.t 41) (.c (.bool true)) (.t 48)),
.s 2 (.mv (.t 49))] [2])
.ret))))
theorem ok15 : FnOk Go.Proofs.Tryz.prog 15 ⟨50, [.t 2], S15⟩ :=
  FnOk.of [[0],[4,3,0],[13,4,3,11,0,12],[11,0,12,13,4,3,14],[11,0,12,13,4,6,3],[3,11,0,12,13,4,6],[3,11,0,12,13,4,30],[4,3,11,0,12,13],[13,4,3,11,0,12],[2]] Go.Proofs.Tryz.func15 (by kernel_rfl) (by kernel_rfl) (by kernel_rfl) (by kernel_rfl) (by kernel_rfl) (by kernel_rfl)
def S17 : S :=
(.seq (.reg [.s 0 (.mv (.c (.bool false)))] [])
(.seq (.reg [.s 8 (.call 47 [(.c (.str [97,91,107,61,119,93,46,98]))]),
.s 7 (.mv (.t 8)),
.s 9 (.ext (.t 7) 0),
.s 10 (.ext (.t 7) 1),
.s 2 (.new [(.int .i64 0),(.int .i64 0)] 81),
.s 1 (.mv (.t 9)),
.n (.st 2 (.t 2) (.t 10))] [2,1])
(.seq (.reg [.s 12 (.call 48 []),
.s 13 (.mv (.t 1)),
.s 14 (.call 22 [(.t 12),(.t 13)]),
.s 11 (.mv (.t 14)),
.s 15 (.ext (.t 11) 0),
.s 16 (.ext (.t 11) 1),
.s 3 (.mv (.t 15)),
.s 4 (.mv (.t 16))] [3,4,2])
(.seq (.reg [.s 18 (.call 48 []),
.s 19 (.bld [(.int .i64 0),(.str []),(.str []),(.int .i64 0)] [(0,1,(.c (.int .i64 3)))]),
.s 20 (.bld [(.int .i64 0),(.str []),(.str []),(.int .i64 0)] [(0,1,(.c (.int .i64 1))),(1,1,(.c (.str [98])))]),
.s 21 (.bsl 4 45 [(.int .i64 0),(.str []),(.str []),(.int .i64 0)] 2 [(0,(.t 19)),(1,(.t 20))]),
.s 22 (.call 22 [(.t 18),(.t 21)]),
.s 17 (.mv (.t 22)),
.s 23 (.ext (.t 17) 0),
.s 24 (.ext (.t 17) 1),
.s 5 (.mv (.t 23)),
.s 6 (.mv (.t 24))] [3,5,6,4,2])
(.seq (.seq (.reg [.s 25 (.ld 2 true (.t 2)),
.s 26 (.bld [(.int .i64 0),(.int .i64 0)] []),
.s 27 (.bin .neq (.agg [.int,.int]) (.t 25) (.t 26)),
.s 28 (.mv (.t 27)),
.z 29 (.mv (.t 4)) 28,
.z 30 (.bin .neq .base (.t 29) (.c (.int .i64 0))) 28,
.s 31 (.pick (.t 28) (.c (.bool true)) (.t 30)),
.s 32 (.mv (.t 31)),
.z 33 (.mv (.t 3)) 32,
.z 34 (.len 1 (.t 33)) 32,
.z 35 (.bin .neq .base (.t 34) (.c (.int .i64 1))) 32,
.s 36 (.pick (.t 32) (.c (.bool true)) (.t 35)),
.s 37 (.mv (.t 36)),
.z 38 (.mv (.t 3)) 37,
.z 39 (.iad 1 (.t 38) (.c (.int .i64 0))) 37,
.z 40 (.ld 1 false (.t 39)) 37,
.z 41 (.len 1 (.t 40)) 37,
.z 42 (.bin .neq .base (.t 41) (.c (.int .i64 3))) 37,
.s 43 (.pick (.t 37) (.c (.bool true)) (.t 42)),
.s 44 (.mv (.t 43)),
.z 45 (.mv (.t 6)) 44,
.z 46 (.bin .neq .base (.t 45) (.c (.int .i64 0))) 44,
.s 47 (.pick (.t 44) (.c (.bool true)) (.t 46)),
.s 48 (.mv (.t 47)),
.z 49 (.mv (.t 5)) 48,
.z 50 (.len 1 (.t 49)) 48,
.z 51 (.bin .neq .base (.t 50) (.c (.int .i64 2))) 48,
.s 52 (.pick (.t 48) (.c (.bool true)) (.t 51))] [3,52])
(.cond (.t 52)
(.seq (.reg [.s 0 (.mv (.c (.bool false)))] [0])
.ret)
.skip))
(.seq (.reg [.s 53 (.mv (.t 3)),
.s 54 (.iad 1 (.t 53) (.c (.int .i64 0))),
.s 55 (.ld 1 false (.t 54)),
.s 56 (.iad 3 (.t 55) (.c (.int .i64 1))),
.s 57 (.fad 2 (.t 56)),
.s 58 (.ld 1 false (.t 57)),
.s 59 (.mv (.t 58)),
.y 60 (.mv (.t 3)) 59,
.y 61 (.iad 1 (.t 60) (.c (.int .i64 0))) 59,
.y 62 (.ld 1 false (.t 61)) 59,
.y 63 (.iad 3 (.t 62) (.c (.int .i64 1))) 59,
.y 64 (.fad 1 (.t 63)) 59,
.y 65 (.ld 1 false (.t 64)) 59,
.y 66 (.bin .eql .base (.t 65) (.c (.int .i64 1))) 59,
.s 67 (.pick (.t 59) (.t 66) (.c (.bool false))),
.s 68 (.mv (.t 67)),
.y 69 (.mv (.t 3)) 68,
.y 70 (.iad 1 (.t 69) (.c (.int .i64 0))) 68,
.y 71 (.ld 1 false (.t 70)) 68,
.y 72 (.iad 3 (.t 71) (.c (.int .i64 2))) 68,
.y 73 (.fad 0 (.t 72)) 68,
.y 74 (.ld 1 false (.t 73)) 68,
.y 75 (.bin .eql .base (.t 74) (.c (.str [98]))) 68,
.s 76 (.pick (.t 68) (.t 75) (.c (.bool false))),
.s 0 (.mv (.t 76))] [0])
.ret))))))
theorem ok17 : FnOk Go.Proofs.Tryz.prog 17 ⟨77, [.t 0], S17⟩ :=
  FnOk.of [[],[2,1],[3,4,2],[3,5,6,4,2],[3,52],[0],[0]] Go.Proofs.Tryz.func17 (by kernel_rfl) (by kernel_rfl) (by kernel_rfl) (by kernel_rfl) (by kernel_rfl) (by kernel_rfl)
def S18 : S :=
(.seq (.reg [.s 3 (.box 2 24 (.t 0)),
.s 6 (.mv (.c (.bool false))),
.s 7 (.mv (.c (.int .i64 0)))] [2,3,1])
(.seq (.seq (.reg [.s 19 (.mv (.t 1)),
.s 20 (.call 49 [(.t 19)]),
.s 18 (.mv (.t 20)),
.s 21 (.ext (.t 18) 0),
.s 22 (.ext (.t 18) 1),
.s 8 (.mv (.t 21)),
.s 9 (.mv (.t 22))] [2,3,1,9])
(.seq (.reg [.s 23 (.mv (.t 9)),
.s 24 (.bin .neq .base (.t 23) (.c (.int .i64 0)))] [2,3,1,24])
(.cond (.t 24)
(.seq (.reg [.s 6 (.mv (.c (.bool false))),
.s 7 (.mv (.c (.int .i64 1)))] [6,7])
.ret)
.skip)))
(.seq (.seq (.reg [.s 26 (.ld 2 true (.t 3)),
.s 27 (.mv (.t 2)),
.s 28 (.call 24 [(.t 26),(.t 27)]),
.s 25 (.mv (.t 28)),
.s 29 (.ext (.t 25) 0),
.s 30 (.ext (.t 25) 1),
.s 10 (.mv (.t 29)),
.s 11 (.mv (.t 30))] [11,2,3,1])
(.seq (.reg [.s 31 (.mv (.t 11)),
.s 32 (.bin .neq .base (.t 31) (.c (.int .i64 0)))] [11,2,3,1,32])
(.cond (.t 32)
(.seq (.reg [.s 33 (.mv (.t 11)),
.s 6 (.mv (.c (.bool false))),
.s 7 (.mv (.t 33))] [6,7])
.ret)
.skip)))
(.seq (.reg [.s 34 (.ld 2 true (.t 3)),
.s 35 (.mv (.t 1)),
.s 36 (.bld [.nils,(.int .i64 0),.nils] [(0,2,(.t 34)),(2,1,(.t 35))]),
.s 37 (.box 3 90 (.t 36)),
.s 12 (.mv (.t 37))] [12,2,3])
(.seq (.reg [.s 38 (.mv (.t 12)),
.s 39 (.call 50 [(.t 38)]),
.s 13 (.mv (.t 39))] [13,12,2,3])
(.seq (.seq (.reg [.s 40 (.mv (.t 2)),
.s 41 (.len 1 (.t 40)),
.s 42 (.mv (.c (.int .i64 0)))] [42,13,12,2,3,40,41])
(.block 0 (.loop (.seq (.reg [.s 43 (.bin .lss .base (.t 42) (.t 41))] [12,2,3,40,41,42,13,43])
(.seq (.cond (.t 43)
.skip
(.exit 0))
(.seq (.block 1 (.seq (.reg [.s 44 (.mv (.t 42)),
.s 45 (.iad 3 (.t 40) (.t 42)),
.s 46 (.ld 3 true (.t 45)),
.s 15 (.new [(.str []),(.int .i64 0),(.bool false)] 85),
.s 14 (.mv (.t 44)),
.n (.st 3 (.t 15) (.t 46))] [12,2,3,40,41,42,15,13,14])
(.seq (.regD [(0, .s 48 (.ld 2 true (.t 3)), 0),
(1, .s 49 (.mv (.t 2)), 0),
(2, .s 50 (.mv (.t 14)), 0),
(3, .s 51 (.bin .add .base (.t 50) (.c (.int .i64 1))), 4),
(4, .s 52 (.sL 3 (.t 49) none (some (.t 51)) none), 14),
(5, .s 53 (.call 24 [(.t 48),(.t 52)]), 31),
(6, .s 47 (.mv (.t 53)), 63),
(7, .s 54 (.ext (.t 47) 0), 127),
(8, .s 55 (.ext (.t 47) 1), 127),
(9, .s 16 (.mv (.t 54)), 255),
(10, .s 17 (.mv (.t 55)), 1023)] [12,2,3,40,41,42,16,15,13])
(.reg [.s 56 (.mv (.t 12)),
.s 57 (.mv (.t 13)),
.s 58 (.ld 3 true (.t 15)),
.s 59 (.mv (.t 16)),
.s 60 (.call 51 [(.t 56),(.t 57),(.t 58),(.t 59)]),
.s 13 (.mv (.t 60))] [13,12,2,3,40,41,42]))))
(.reg [.s 61 (.bin .add .base (.t 42) (.c (.int .i64 1))),
.s 42 (.mv (.t 61))] [42,13,12,2,3,40,41])))))))
(.seq (.reg [.s 62 (.mv (.t 12)),
.s 63 (.mv (.t 13)),
.s 64 (.call 52 [(.t 62),(.t 63)]),
.s 6 (.mv (.t 64)),
.s 7 (.mv (.c (.int .i64 0)))] [6,7])
.ret)))))))
theorem ok18 : FnOk Go.Proofs.Tryz.prog 18 ⟨65, [.t 6,.t 7], S18⟩ :=
  FnOk.of [[2,3,1],[2,3,1,9],[2,3,1,24],[6,7],[11,2,3,1],[11,2,3,1,32],[6,7],[12,2,3],[13,12,2,3],[42,13,12,2,3,40,41],[12,2,3,40,41,42,13,43],[12,2,3,40,41,42,15,13,14],[12,2,3,40,41,42,16,15,13],[13,12,2,3,40,41,42],[42,13,12,2,3,40,41],[6,7]] Go.Proofs.Tryz.func18 (by kernel_rfl) (by kernel_rfl) (by kernel_rfl) (by kernel_rfl) (by kernel_rfl) (by kernel_rfl)
def S19 : S :=
(.seq (.reg [.s 2 (.mv (.c .nils))] [0])
(.seq (.reg [.s 3 (.mv (.c .nils))] [3,0])
(.seq (.seq (.reg [.s 6 (.mv (.t 0)),
.s 7 (.len 1 (.t 6)),
.s 8 (.mv (.c (.int .i64 0)))] [8,3,6,7])
(.block 0 (.loop (.seq (.reg [.s 9 (.bin .lss .base (.t 8) (.t 7))] [6,7,8,3,9])
(.seq (.cond (.t 9)
.skip
(.exit 0))
(.seq (.block 1 (.seq (.reg [.s 10 (.iad 4 (.t 6) (.t 8)),
.s 11 (.ld 4 true (.t 10)),
.s 5 (.new [(.int .i64 0),(.str []),(.str []),(.int .i64 0)] 77),
.n (.st 4 (.t 5) (.t 11))] [6,7,8,5,3])
(.reg [.s 12 (.mv (.t 3)),
.s 13 (.fad 0 (.t 5)),
.s 14 (.ld 1 false (.t 13)),
.s 15 (.fad 1 (.t 5)),
.s 16 (.ld 1 false (.t 15)),
.s 17 (.fad 2 (.t 5)),
.s 18 (.ld 1 false (.t 17)),
.s 19 (.fad 3 (.t 5)),
.s 20 (.ld 1 false (.t 19)),
.s 21 (.bld [(.int .i64 0),(.str []),(.str []),(.int .i64 0)] [(0,1,(.t 14)),(1,1,(.t 16)),(2,1,(.t 18)),(3,1,(.t 20))]),
.s 22 (.bsl 4 45 [(.int .i64 0),(.str []),(.str []),(.int .i64 0)] 1 [(0,(.t 21))]),
.s 23 (.ap 4 48 45 (.t 12) (.t 22)),
.s 3 (.mv (.t 23))] [3,6,7,8])))
(.reg [.s 24 (.bin .add .base (.t 8) (.c (.int .i64 1))),
.s 8 (.mv (.t 24))] [8,3,6,7])))))))
(.seq (.reg [.s 25 (.mv (.t 3)),
.s 2 (.mv (.t 25))] [2])
.ret))))
theorem ok19 : FnOk Go.Proofs.Tryz.prog 19 ⟨26, [.t 2], S19⟩ :=
  FnOk.of [[0],[3,0],[8,3,6,7],[6,7,8,3,9],[6,7,8,5,3],[3,6,7,8],[8,3,6,7],[2]] Go.Proofs.Tryz.func19 (by kernel_rfl) (by kernel_rfl) (by kernel_rfl) (by kernel_rfl) (by kernel_rfl) (by kernel_rfl)
def S22 : S :=
(.seq (.reg [.s 2 (.box 2 24 (.t 0)),
.s 4 (.mv (.c .nils)),
.s 5 (.mv (.c (.int .i64 0)))] [2,1])
(.seq (.seq (.reg [.s 10 (.mv (.t 1)),
.s 11 (.call 49 [(.t 10)]),
.s 9 (.mv (.t 11)),
.s 12 (.ext (.t 9) 0),
.s 13 (.ext (.t 9) 1),
.s 6 (.mv (.t 12)),
.s 7 (.mv (.t 13))] [2,1,7])
(.seq (.reg [.s 14 (.mv (.t 7)),
.s 15 (.bin .neq .base (.t 14) (.c (.int .i64 0))),
.s 16 (.mv (.t 15)),
.z 17 (.ld 2 true (.t 2)) 16,
.z 18 (.call 39 [(.t 17)]) 16,
.z 19 (.un .not (.t 18)) 16,
.s 20 (.pick (.t 16) (.c (.bool true)) (.t 19))] [2,1,20])
(.cond (.t 20)
(.seq (.reg [.s 4 (.mv (.c .nils)),
.s 5 (.mv (.c (.int .i64 1)))] [4,5])
.ret)
.skip)))
(.seq (.regD [(0, .s 21 (.ld 2 true (.t 2)), 0),
(1, .s 22 (.mv (.t 1)), 0),
(2, .s 23 (.bld [.nils,(.int .i64 0),.nils] [(0,2,(.t 21)),(2,1,(.t 22))]), 3),
(3, .s 24 (.fad 0 (.t 2)), 0),
(4, .s 25 (.ld 1 false (.t 24)), 8),
(5, .s 26 (.len 1 (.t 25)), 24),
(6, .s 27 (.mkS 1 1 4 [(.bool false)] (.t 26) (.t 26)), 56),
(7, .s 28 (.bld [.nils,(.int .i64 0),.nils,.nils,(.int .i64 0),.nils] [(0,3,(.t 23)),(4,1,(.c (.int .i64 4096))),(5,1,(.t 27))]), 127),
(8, .s 29 (.box 6 103 (.t 28)), 255),
(9, .s 8 (.mv (.t 29)), 511)] [8,2])
(.seq (.regD [(0, .s 30 (.mv (.t 8)), 0),
(1, .s 31 (.fad 1 (.t 2)), 0),
(2, .s 32 (.ld 1 false (.t 31)), 2),
(3, .s 33 (.mv (.t 8)), 0),
(4, .s 34 (.nck (.t 33)), 8),
(5, .s 35 (.fad 0 (.t 34)), 24),
(6, .s 36 (.call 50 [(.t 35)]), 56),
(7, .s 37 (.call 56 [(.t 30),(.t 32),(.c .nils),(.t 36)]), 127)] [8])
(.seq (.seq (.reg [.s 38 (.mv (.t 8)),
.s 39 (.nck (.t 38)),
.s 40 (.fad 4 (.t 39)),
.s 41 (.ld 1 false (.t 40)),
.s 42 (.bin .lss .base (.t 41) (.c (.int .i64 0)))] [8,42])
(.cond (.t 42)
(.seq (.reg [.s 4 (.mv (.c .nils)),
.s 5 (.mv (.c (.int .i64 5)))] [4,5])
.ret)
.skip))
(.seq (.reg [.s 43 (.mv (.t 8)),
.s 44 (.nck (.t 43)),
.s 45 (.fad 3 (.t 44)),
.s 46 (.ld 1 false (.t 45)),
.s 4 (.mv (.t 46)),
.s 5 (.mv (.c (.int .i64 0)))] [4,5])
.ret))))))
theorem ok22 : FnOk Go.Proofs.Tryz.prog 22 ⟨47, [.t 4,.t 5], S22⟩ :=
  FnOk.of [[2,1],[2,1,7],[2,1,20],[4,5],[8,2],[8],[8,42],[4,5],[4,5]] Go.Proofs.Tryz.func22 (by kernel_rfl) (by kernel_rfl) (by kernel_rfl) (by kernel_rfl) (by kernel_rfl) (by kernel_rfl)
def S23 : S :=
(.seq (.reg [.s 4 (.mv (.c (.bool false)))] [1,0])
(.seq (.seq (.reg [.s 6 (.mv (.t 0)),
.s 7 (.len 1 (.t 6)),
.s 8 (.mv (.t 1)),
.s 9 (.len 1 (.t 8)),
.s 10 (.bin .neq .base (.t 7) (.t 9))] [1,0,10])
(.cond (.t 10)
(.seq (.reg [.s 4 (.mv (.c (.bool false)))] [4])
.ret)
.skip))
(.seq (.seq (.reg [.s 11 (.mv (.t 0)),
.s 12 (.len 1 (.t 11)),
.s 13 (.mv (.c (.int .i64 0)))] [13,1,0,12])
(.block 0 (.loop (.seq (.reg [.s 14 (.bin .lss .base (.t 13) (.t 12))] [1,0,12,13,14])
(.seq (.cond (.t 14)
.skip
(.exit 0))
(.seq (.block 1 (.seq (.reg [.s 15 (.mv (.t 13)),
.s 5 (.mv (.t 15))] [1,0,12,13,5])
(.seq (.regD [(0, .s 16 (.mv (.t 0)), 0),
(1, .s 17 (.mv (.t 5)), 0),
(2, .s 18 (.iad 3 (.t 16) (.t 17)), 3),
(3, .s 19 (.ld 3 true (.t 18)), 7),
(5, .s 21 (.mv (.t 1)), 0),
(6, .s 22 (.mv (.t 5)), 0),
(7, .s 23 (.iad 3 (.t 21) (.t 22)), 96),
(8, .s 24 (.ld 3 true (.t 23)), 224),
(4, .s 20 (.call 57 [(.t 19)]), 15),
(9, .s 25 (.call 57 [(.t 24)]), 511),
(10, .s 26 (.bin .neq (.agg [.str,.int,.bool]) (.t 20) (.t 25)), 1023)] [1,0,12,13,26])
(.cond (.t 26)
(.seq (.reg [.s 4 (.mv (.c (.bool false)))] [4])
.ret)
.skip))))
(.reg [.s 27 (.bin .add .base (.t 13) (.c (.int .i64 1))),
.s 13 (.mv (.t 27))] [13,1,0,12])))))))
(.seq (.reg [.s 4 (.mv (.c (.bool true)))] [4])
.ret))))
theorem ok23 : FnOk Go.Proofs.Tryz.prog 23 ⟨28, [.t 4], S23⟩ :=
  FnOk.of [[1,0],[1,0,10],[4],[13,1,0,12],[1,0,12,13,14],[1,0,12,13,5],[1,0,12,13,26],[4],[13,1,0,12],[4]] Go.Proofs.Tryz.func23 (by kernel_rfl) (by kernel_rfl) (by kernel_rfl) (by kernel_rfl) (by kernel_rfl) (by kernel_rfl)
def S24 : S :=
(.seq (.reg [.s 2 (.box 2 24 (.t 0)),
.s 4 (.mv (.c (.int .i64 0))),
.s 5 (.mv (.c (.int .i64 0)))] [2,1])
(.seq (.seq (.reg [.s 14 (.mv (.t 1)),
.s 15 (.call 58 [(.t 14)]),
.s 13 (.mv (.t 15)),
.s 16 (.ext (.t 13) 0),
.s 17 (.ext (.t 13) 1),
.s 6 (.mv (.t 16)),
.s 7 (.mv (.t 17))] [2,1,7])
(.seq (.reg [.s 18 (.mv (.t 7)),
.s 19 (.bin .neq .base (.t 18) (.c (.int .i64 0))),
.s 20 (.mv (.t 19)),
.z 21 (.ld 2 true (.t 2)) 20,
.z 22 (.call 39 [(.t 21)]) 20,
.z 23 (.un .not (.t 22)) 20,
.s 24 (.pick (.t 20) (.c (.bool true)) (.t 23))] [2,1,24])
(.cond (.t 24)
(.seq (.reg [.s 4 (.mv (.c (.int .i64 0))),
.s 5 (.mv (.c (.int .i64 1)))] [4,5])
.ret)
.skip)))
(.seq (.reg [.s 25 (.fad 1 (.t 2)),
.s 26 (.ld 1 false (.t 25)),
.s 8 (.mv (.t 26))] [8,2,1])
(.seq (.seq (.reg [.s 27 (.mv (.t 1)),
.s 28 (.len 1 (.t 27)),
.s 29 (.mv (.c (.int .i64 0)))] [29,8,2,27,28])
(.block 0 (.loop (.seq (.reg [.s 30 (.bin .lss .base (.t 29) (.t 28))] [2,27,28,29,8,30])
(.seq (.cond (.t 30)
.skip
(.exit 0))
(.seq (.block 1 (.seq (.reg [.s 31 (.iad 3 (.t 27) (.t 29)),
.s 32 (.ld 3 true (.t 31)),
.s 10 (.new [(.str []),(.int .i64 0),(.bool false)] 85),
.n (.st 3 (.t 10) (.t 32))] [2,27,28,29,10,8])
(.seq (.reg [.s 33 (.fad 0 (.t 2)),
.s 34 (.ld 1 false (.t 33)),
.s 35 (.mv (.t 8)),
.s 36 (.iad 3 (.t 34) (.t 35)),
.s 37 (.ld 3 true (.t 36)),
.s 11 (.new [(.int .i64 0),(.str []),.nils] 68),
.n (.st 3 (.t 11) (.t 37)),
.s 12 (.mv (.c (.bool false)))] [2,27,28,29,10,11,8])
(.seq (.block 2 (.seq (.reg [.s 39 (.fad 2 (.t 10)),
.s 40 (.ld 1 false (.t 39)),
.s 41 (.mv (.t 40)),
.y 42 (.fad 0 (.t 11)) 41,
.y 43 (.ld 1 false (.t 42)) 41,
.y 44 (.bin .eql .base (.t 43) (.c (.int .i64 5))) 41,
.s 45 (.pick (.t 41) (.t 44) (.c (.bool false))),
.s 38 (.mv (.t 45))] [2,27,28,29,10,11,8,38])
(.cond (.t 38)
(.seq (.reg [.s 46 (.fad 1 (.t 10)),
.s 47 (.ld 1 false (.t 46)),
.s 48 (.fad 2 (.t 11)),
.s 49 (.ld 1 false (.t 48)),
.s 50 (.len 1 (.t 49)),
.s 51 (.bin .lss .base (.t 47) (.t 50)),
.s 12 (.mv (.t 51))] [2,27,28,29,12,10,11,8])
(.seq (.reg [.s 52 (.mv (.t 12))] [2,27,28,29,12,10,11,8,52])
(.cond (.t 52)
(.reg [.s 53 (.fad 2 (.t 11)),
.s 54 (.ld 1 false (.t 53)),
.s 55 (.fad 1 (.t 10)),
.s 56 (.ld 1 false (.t 55)),
.s 57 (.iad 1 (.t 54) (.t 56)),
.s 58 (.ld 1 false (.t 57)),
.s 8 (.mv (.t 58))] [8,2,27,28,29,12])
.skip)))
(.seq (.reg [.s 60 (.fad 2 (.t 10)),
.s 61 (.ld 1 false (.t 60)),
.s 62 (.un .not (.t 61)),
.s 63 (.mv (.t 62)),
.y 64 (.fad 0 (.t 11)) 63,
.y 65 (.ld 1 false (.t 64)) 63,
.y 66 (.bin .eql .base (.t 65) (.c (.int .i64 6))) 63,
.s 67 (.pick (.t 63) (.t 66) (.c (.bool false))),
.s 59 (.mv (.t 67))] [2,27,28,29,10,8,59])
(.cond (.t 59)
(.reg [.s 69 (.ld 2 true (.t 2)),
.s 70 (.mv (.t 8)),
.s 71 (.fad 0 (.t 10)),
.s 72 (.ld 1 false (.t 71)),
.s 73 (.call 46 [(.t 69),(.t 70),(.c (.int .i64 4)),(.t 72)]),
.s 68 (.mv (.t 73)),
.s 74 (.ext (.t 68) 0),
.s 75 (.ext (.t 68) 1),
.s 8 (.mv (.t 74)),
.s 12 (.mv (.t 75))] [8,2,27,28,29,12])
(.seq (.reg [.s 4 (.mv (.c (.int .i64 0))),
.s 5 (.mv (.c (.int .i64 17)))] [4,5])
.ret))))))
(.seq (.reg [.s 76 (.mv (.t 12)),
.s 77 (.un .not (.t 76))] [8,2,27,28,29,77])
(.cond (.t 77)
(.seq (.reg [.s 4 (.mv (.c (.int .i64 0))),
.s 5 (.mv (.c (.int .i64 6)))] [4,5])
.ret)
.skip))))))
(.reg [.s 78 (.bin .add .base (.t 29) (.c (.int .i64 1))),
.s 29 (.mv (.t 78))] [29,8,2,27,28])))))))
(.seq (.reg [.s 79 (.mv (.t 8)),
.s 4 (.mv (.t 79)),
.s 5 (.mv (.c (.int .i64 0)))] [4,5])
.ret)))))
theorem ok24 : FnOk Go.Proofs.Tryz.prog 24 ⟨80, [.t 4,.t 5], S24⟩ :=
  FnOk.of [[2,1],[2,1,7],[2,1,24],[4,5],[8,2,1],[29,8,2,27,28],[2,27,28,29,8,30],[2,27,28,29,10,8],[2,27,28,29,10,11,8],[2,27,28,29,10,11,8,38],[2,27,28,29,12,10,11,8],[2,27,28,29,12,10,11,8,52],[8,2,27,28,29,12],[2,27,28,29,10,8,59],[8,2,27,28,29,12],[4,5],[8,2,27,28,29,77],[4,5],[29,8,2,27,28],[4,5]] Go.Proofs.Tryz.func24 (by kernel_rfl) (by kernel_rfl) (by kernel_rfl) (by kernel_rfl) (by kernel_rfl) (by kernel_rfl)
def S25 : S :=
(.seq (.reg [.s 4 (.mv (.c (.bool false))),
.s 5 (.mv (.c (.int .i64 0)))] [1,0])
(.seq (.seq (.reg [.s 12 (.mv (.t 0)),
.s 13 (.call 49 [(.t 12)]),
.s 11 (.mv (.t 13)),
.s 14 (.ext (.t 11) 0),
.s 15 (.ext (.t 11) 1),
.s 6 (.mv (.t 14)),
.s 7 (.mv (.t 15))] [1,0,7])
(.seq (.reg [.s 16 (.mv (.t 7)),
.s 17 (.bin .neq .base (.t 16) (.c (.int .i64 0)))] [1,0,17])
(.cond (.t 17)
(.seq (.reg [.s 4 (.mv (.c (.bool false))),
.s 5 (.mv (.c (.int .i64 1)))] [4,5])
.ret)
.skip)))
(.seq (.seq (.reg [.s 19 (.mv (.t 1)),
.s 20 (.call 49 [(.t 19)]),
.s 18 (.mv (.t 20)),
.s 21 (.ext (.t 18) 0),
.s 22 (.ext (.t 18) 1),
.s 8 (.mv (.t 21)),
.s 9 (.mv (.t 22))] [1,0,9])
(.seq (.reg [.s 23 (.mv (.t 9)),
.s 24 (.bin .neq .base (.t 23) (.c (.int .i64 0)))] [1,0,24])
(.cond (.t 24)
(.seq (.reg [.s 4 (.mv (.c (.bool false))),
.s 5 (.mv (.c (.int .i64 1)))] [4,5])
.ret)
.skip)))
(.seq (.reg [.s 25 (.mv (.t 0)),
.s 26 (.mv (.t 1)),
.s 27 (.mkM),
.s 28 (.bld [.nils,.nils,.nilm] [(0,1,(.t 25)),(1,1,(.t 26)),(2,1,(.t 27))]),
.s 29 (.box 3 110 (.t 28)),
.s 10 (.mv (.t 29))] [10])
(.seq (.reg [.s 30 (.mv (.t 10)),
.s 31 (.bld [(.int .i64 0),(.int .i64 0)] []),
.s 32 (.call 59 [(.t 30),(.t 31)]),
.s 4 (.mv (.t 32)),
.s 5 (.mv (.c (.int .i64 0)))] [4,5])
.ret)))))
theorem ok25 : FnOk Go.Proofs.Tryz.prog 25 ⟨33, [.t 4,.t 5], S25⟩ :=
  FnOk.of [[1,0],[1,0,7],[1,0,17],[4,5],[1,0,9],[1,0,24],[4,5],[10],[4,5]] Go.Proofs.Tryz.func25 (by kernel_rfl) (by kernel_rfl) (by kernel_rfl) (by kernel_rfl) (by kernel_rfl) (by kernel_rfl)
def S39 : S :=
(.seq (.reg [.s 1 (.box 2 24 (.t 0)),
.s 2 (.mv (.c (.bool false)))] [1])
(.seq (.seq (.reg [.s 10 (.fad 0 (.t 1)),
.s 11 (.ld 1 false (.t 10)),
.s 12 (.len 1 (.t 11)),
.s 13 (.bin .eql .base (.t 12) (.c (.int .i64 0))),
.s 14 (.mv (.t 13)),
.z 15 (.fad 0 (.t 1)) 14,
.z 16 (.ld 1 false (.t 15)) 14,
.z 17 (.len 1 (.t 16)) 14,
.z 18 (.bin .gtr .base (.t 17) (.c (.int .i64 4096))) 14,
.s 19 (.pick (.t 14) (.c (.bool true)) (.t 18)),
.s 20 (.mv (.t 19)),
.z 21 (.fad 1 (.t 1)) 20,
.z 22 (.ld 1 false (.t 21)) 20,
.z 23 (.bin .lss .base (.t 22) (.c (.int .i64 0))) 20,
.s 24 (.pick (.t 20) (.c (.bool true)) (.t 23)),
.s 25 (.mv (.t 24)),
.z 26 (.fad 1 (.t 1)) 25,
.z 27 (.ld 1 false (.t 26)) 25,
.z 28 (.fad 0 (.t 1)) 25,
.z 29 (.ld 1 false (.t 28)) 25,
.z 30 (.len 1 (.t 29)) 25,
.z 31 (.bin .geq .base (.t 27) (.t 30)) 25,
.s 32 (.pick (.t 25) (.c (.bool true)) (.t 31))] [1,32])
(.cond (.t 32)
(.seq (.reg [.s 2 (.mv (.c (.bool false)))] [2])
.ret)
.skip))
(.seq (.reg [.s 33 (.fad 0 (.t 1)),
.s 34 (.ld 1 false (.t 33)),
.s 35 (.len 1 (.t 34)),
.s 36 (.mkS 1 8 3 [(.int .i64 0)] (.t 35) (.t 35)),
.s 3 (.new [.nils] 66),
.n (.st 1 (.t 3) (.t 36))] [3,1])
(.seq (.reg [.s 37 (.ld 1 false (.t 3)),
.s 38 (.fad 1 (.t 1)),
.s 39 (.ld 1 false (.t 38)),
.s 40 (.iad 1 (.t 37) (.t 39)),
.s 41 (.ld 1 false (.t 40)),
.s 42 (.bin .add .base (.t 41) (.c (.int .i64 1))),
.s 43 (.iad 1 (.t 37) (.t 39)),
.n (.st 1 (.t 43) (.t 42))] [3,1])
(.seq (.seq (.reg [.s 44 (.fad 0 (.t 1)),
.s 45 (.ld 1 false (.t 44)),
.s 46 (.len 1 (.t 45)),
.s 47 (.mv (.c (.int .i64 0)))] [3,47,1,45,46])
(.block 0 (.loop (.seq (.reg [.s 48 (.bin .lss .base (.t 47) (.t 46))] [3,1,45,46,47,48])
(.seq (.cond (.t 48)
.skip
(.exit 0))
(.seq (.block 1 (.seq (.reg [.s 49 (.iad 3 (.t 45) (.t 47)),
.s 50 (.ld 3 true (.t 49)),
.s 5 (.new [(.int .i64 0),(.str []),.nils] 68),
.n (.st 3 (.t 5) (.t 50))] [3,1,45,46,47,5])
(.seq (.seq (.reg [.s 51 (.ld 2 true (.t 1)),
.s 52 (.ld 3 true (.t 5)),
.s 53 (.call 81 [(.t 51),(.t 52)]),
.s 54 (.un .not (.t 53))] [3,1,45,46,47,5,54])
(.cond (.t 54)
(.seq (.reg [.s 2 (.mv (.c (.bool false)))] [2])
.ret)
.skip))
(.seq (.reg [.s 55 (.fad 2 (.t 5)),
.s 56 (.ld 1 false (.t 55)),
.s 57 (.len 1 (.t 56)),
.s 58 (.mv (.c (.int .i64 0)))] [58,3,56,1,45,46,47,57])
(.block 2 (.loop (.seq (.reg [.s 59 (.bin .lss .base (.t 58) (.t 57))] [3,56,1,45,46,47,57,58,59])
(.seq (.cond (.t 59)
.skip
(.exit 2))
(.seq (.block 3 (.seq (.reg [.s 60 (.iad 1 (.t 56) (.t 58)),
.s 61 (.ld 1 false (.t 60)),
.s 7 (.mv (.t 61))] [3,56,1,45,46,47,57,58,7])
(.reg [.s 62 (.ld 1 false (.t 3)),
.s 63 (.mv (.t 7)),
.s 64 (.iad 1 (.t 62) (.t 63)),
.s 65 (.ld 1 false (.t 64)),
.s 66 (.bin .add .base (.t 65) (.c (.int .i64 1))),
.s 67 (.iad 1 (.t 62) (.t 63)),
.n (.st 1 (.t 67) (.t 66))] [3,56,1,45,46,47,57,58])))
(.reg [.s 68 (.bin .add .base (.t 58) (.c (.int .i64 1))),
.s 58 (.mv (.t 68))] [58,3,56,1,45,46,47,57]))))))))))
(.reg [.s 69 (.bin .add .base (.t 47) (.c (.int .i64 1))),
.s 47 (.mv (.t 69))] [3,47,1,45,46])))))))
(.seq (.seq (.reg [.s 70 (.fad 0 (.t 1)),
.s 71 (.ld 1 false (.t 70)),
.s 72 (.len 1 (.t 71)),
.s 73 (.mv (.c (.int .i64 0)))] [73,3,71,72])
(.block 4 (.loop (.seq (.reg [.s 74 (.bin .lss .base (.t 73) (.t 72))] [3,71,72,73,74])
(.seq (.cond (.t 74)
.skip
(.exit 4))
(.seq (.block 5 (.seq (.reg [.s 75 (.iad 3 (.t 71) (.t 73)),
.s 76 (.ld 3 true (.t 75)),
.s 9 (.new [(.int .i64 0),(.str []),.nils] 68),
.n (.st 3 (.t 9) (.t 76))] [3,71,72,73,9])
(.seq (.reg [.s 77 (.ld 3 true (.t 9)),
.s 78 (.call 83 [(.t 77)]),
.s 79 (.mkF 84 [] [(.t 3)]),
.s 80 (.call 82 [(.t 78),(.t 79)])] [3,71,72,73,80])
(.cond (.t 80)
(.seq (.reg [.s 2 (.mv (.c (.bool false)))] [2])
.ret)
.skip))))
(.reg [.s 81 (.bin .add .base (.t 73) (.c (.int .i64 1))),
.s 73 (.mv (.t 81))] [73,3,71,72])))))))
(.seq (.reg [.s 2 (.mv (.c (.bool true)))] [2])
.ret)))))))
theorem ok39 : FnOk Go.Proofs.Tryz.prog 39 ⟨82, [.t 2], S39⟩ :=
  FnOk.of [[1],[1,32],[2],[3,1],[3,1],[3,47,1,45,46],[3,1,45,46,47,48],[3,1,45,46,47,5],[3,1,45,46,47,5,54],[2],[58,3,56,1,45,46,47,57],[3,56,1,45,46,47,57,58,59],[3,56,1,45,46,47,57,58,7],[3,56,1,45,46,47,57,58],[58,3,56,1,45,46,47,57],[3,47,1,45,46],[73,3,71,72],[3,71,72,73,74],[3,71,72,73,9],[3,71,72,73,80],[2],[73,3,71,72],[2]] Go.Proofs.Tryz.func39 (by kernel_rfl) (by kernel_rfl) (by kernel_rfl) (by kernel_rfl) (by kernel_rfl) (by kernel_rfl)
def S46 : S :=
(.seq (.reg [.s 4 (.box 2 24 (.t 0)),
.s 8 (.mv (.c (.int .i64 0))),
.s 9 (.mv (.c (.bool false)))] [3,2,1,4])
(.seq (.seq (.reg [.s 12 (.ld 2 true (.t 4)),
.s 13 (.call 39 [(.t 12)]),
.s 14 (.un .not (.t 13)),
.s 15 (.mv (.t 14)),
.z 16 (.mv (.t 1)) 15,
.z 17 (.bin .lss .base (.t 16) (.c (.int .i64 0))) 15,
.s 18 (.pick (.t 15) (.c (.bool true)) (.t 17)),
.s 19 (.mv (.t 18)),
.z 20 (.mv (.t 1)) 19,
.z 21 (.fad 0 (.t 4)) 19,
.z 22 (.ld 1 false (.t 21)) 19,
.z 23 (.len 1 (.t 22)) 19,
.z 24 (.bin .geq .base (.t 20) (.t 23)) 19,
.s 25 (.pick (.t 19) (.c (.bool true)) (.t 24)),
.s 26 (.mv (.t 25)),
.z 27 (.fad 0 (.t 4)) 26,
.z 28 (.ld 1 false (.t 27)) 26,
.z 29 (.mv (.t 1)) 26,
.z 30 (.iad 3 (.t 28) (.t 29)) 26,
.z 31 (.fad 0 (.t 30)) 26,
.z 32 (.ld 1 false (.t 31)) 26,
.z 33 (.bin .neq .base (.t 32) (.c (.int .i64 6))) 26,
.s 34 (.pick (.t 26) (.c (.bool true)) (.t 33))] [3,2,1,4,34])
(.cond (.t 34)
(.seq (.reg [.s 8 (.mv (.c (.int .i64 0))),
.s 9 (.mv (.c (.bool false)))] [8,9])
.ret)
.skip))
(.seq (.regD [(0, .s 36 (.ld 2 true (.t 4)), 0),
(1, .s 37 (.fad 0 (.t 4)), 0),
(2, .s 38 (.ld 1 false (.t 37)), 2),
(3, .s 39 (.mv (.t 1)), 0),
(4, .s 40 (.iad 3 (.t 38) (.t 39)), 14),
(5, .s 41 (.ld 3 true (.t 40)), 30),
(7, .s 43 (.mv (.t 2)), 0),
(8, .s 44 (.mv (.t 3)), 0),
(9, .s 45 (.bld [(.int .i64 0),(.str [])] [(0,1,(.t 43)),(1,1,(.t 44))]), 384),
(14, .s 10 (.new [(.int .i64 0),(.int .i64 0)] 172), 0),
(6, .s 42 (.call 97 [(.t 36),(.t 41)]), 63),
(10, .s 46 (.lk (.many [.int,.str]) (.agg [(.int .i64 0),(.int .i64 0)]) true (.t 42) (.t 45)), 1023),
(11, .s 35 (.mv (.t 46)), 2047),
(12, .s 47 (.ext (.t 35) 0), 4095),
(13, .s 48 (.ext (.t 35) 1), 4095),
(15, .n (.st 2 (.t 10) (.t 47)), 24575),
(16, .s 11 (.mv (.t 48)), 65535)] [11,10])
(.seq (.reg [.s 49 (.fad 1 (.t 10)),
.s 50 (.ld 1 false (.t 49)),
.s 51 (.mv (.t 11)),
.s 8 (.mv (.t 50)),
.s 9 (.mv (.t 51))] [8,9])
.ret))))
theorem ok46 : FnOk Go.Proofs.Tryz.prog 46 ⟨52, [.t 8,.t 9], S46⟩ :=
  FnOk.of [[3,2,1,4],[3,2,1,4,34],[8,9],[11,10],[8,9]] Go.Proofs.Tryz.func46 (by kernel_rfl) (by kernel_rfl) (by kernel_rfl) (by kernel_rfl) (by kernel_rfl) (by kernel_rfl)
def S47 : S :=
(.seq (.reg [.s 2 (.mv (.c .nils)),
.s 3 (.new [(.int .i64 0),(.int .i64 0)] 81)] [3,0])
(.seq (.reg [.s 6 (.mv (.t 0)),
.s 7 (.len 0 (.t 6)),
.s 8 (.mv (.t 0)),
.s 9 (.bld [(.int .i64 0),(.str []),(.int .i64 0),(.int .i64 0)] [(0,1,(.t 7)),(1,1,(.t 8))]),
.s 10 (.box 4 180 (.t 9)),
.s 4 (.mv (.t 10))] [4,3])
(.seq (.reg [.s 5 (.mv (.c .nils))] [4,5,3])
(.seq (.block 0 (.loop (.seq (.seq (.reg [.s 11 (.mv (.t 4)),
.s 12 (.nck (.t 11)),
.s 13 (.fad 1 (.t 12)),
.s 14 (.ld 1 false (.t 13)),
.s 15 (.bin .neq .base (.t 14) (.c (.str []))),
.s 16 (.mv (.t 15)),
.y 17 (.mv (.t 4)) 16,
.y 18 (.nck (.t 17)) 16,
.y 19 (.fad 2 (.t 18)) 16,
.y 20 (.ld 2 true (.t 19)) 16,
.y 21 (.bld [(.int .i64 0),(.int .i64 0)] []) 16,
.y 22 (.bin .eql (.agg [.int,.int]) (.t 20) (.t 21)) 16,
.s 23 (.pick (.t 16) (.t 22) (.c (.bool false)))] [4,5,3,23])
(.cond (.t 23)
.skip
(.exit 0)))
(.block 1 (.seq (.reg [.s 24 (.mv (.t 5)),
.s 25 (.len 1 (.t 24)),
.s 26 (.bin .eql .base (.t 25) (.c (.int .i64 32)))] [4,5,3,26])
(.cond (.t 26)
(.reg [.s 27 (.mv (.t 4)),
.s 28 (.mv (.t 4)),
.s 29 (.call 99 [(.t 28)]),
.s 30 (.call 98 [(.t 27),(.c (.int .i64 5)),(.t 29)])] [4,5,3])
(.reg [.s 31 (.mv (.t 5)),
.s 32 (.mv (.t 4)),
.s 33 (.call 100 [(.t 32)]),
.s 34 (.bsl 4 45 [(.int .i64 0),(.str []),(.str []),(.int .i64 0)] 1 [(0,(.t 33))]),
.s 35 (.ap 4 48 45 (.t 31) (.t 34)),
.s 5 (.mv (.t 35))] [4,5,3])))))))
(.seq (.seq (.reg [.s 36 (.mv (.t 4)),
.s 37 (.nck (.t 36)),
.s 38 (.fad 2 (.t 37)),
.s 39 (.ld 2 true (.t 38)),
.s 40 (.bld [(.int .i64 0),(.int .i64 0)] []),
.s 41 (.bin .neq (.agg [.int,.int]) (.t 39) (.t 40))] [3,4,5,41])
(.cond (.t 41)
(.seq (.regD [(0, .s 42 (.mv (.t 4)), 0),
(1, .s 43 (.nck (.t 42)), 1),
(2, .s 44 (.fad 2 (.t 43)), 3),
(3, .s 45 (.ld 2 true (.t 44)), 7),
(4, .s 2 (.mv (.c .nils)), 0),
(5, .n (.st 2 (.t 3) (.t 45)), 31)] [2,3])
.ret)
.skip))
(.seq (.reg [.s 46 (.mv (.t 5)),
.s 47 (.bld [(.int .i64 0),(.int .i64 0)] []),
.s 2 (.mv (.t 46)),
.n (.st 2 (.t 3) (.t 47))] [2,3])
.ret))))))
theorem ok47 : FnOk Go.Proofs.Tryz.prog 47 ⟨48, [.t 2,.c 3 2 true], S47⟩ :=
  FnOk.of [[3,0],[4,3],[4,5,3],[4,5,3,23],[4,5,3,26],[4,5,3],[4,5,3],[3,4,5,41],[2,3],[2,3]] Go.Proofs.Tryz.func47 (by kernel_rfl) (by kernel_rfl) (by kernel_rfl) (by kernel_rfl) (by kernel_rfl) (by kernel_rfl)
def S48 : S :=
(.seq (.reg [.s 0 (.new [.nils,(.int .i64 0)] 24)] [0])
(.seq (.reg [.s 1 (.mv (.c (.fn 101 [] [])))] [0,1])
(.seq (.reg [.s 2 (.bsl 1 3 [(.int .i64 0)] 2 [(0,(.c (.int .i64 1))),(1,(.c (.int .i64 2)))]),
.s 3 (.bld [(.int .i64 0),(.str []),.nils] [(0,1,(.c (.int .i64 6))),(2,1,(.t 2))]),
.s 4 (.mv (.t 1)),
.s 5 (.callv (.t 4) [(.c (.str [97]))]),
.s 6 (.bsl 1 3 [(.int .i64 0)] 2 [(0,(.c (.int .i64 3))),(1,(.c (.int .i64 8)))]),
.s 7 (.bld [(.int .i64 0),(.str []),.nils] [(0,1,(.c (.int .i64 5))),(2,1,(.t 6))]),
.s 8 (.bsl 1 3 [(.int .i64 0)] 4 [(0,(.c (.int .i64 4))),(1,(.c (.int .i64 5))),(2,(.c (.int .i64 6))),(3,(.c (.int .i64 7)))]),
.s 9 (.bld [(.int .i64 0),(.str []),.nils] [(0,1,(.c (.int .i64 6))),(2,1,(.t 8))]),
.s 10 (.mv (.t 1)),
.s 11 (.callv (.t 10) [(.c (.str [107]))]),
.s 12 (.mv (.t 1)),
.s 13 (.callv (.t 12) [(.c (.str [118]))]),
.s 14 (.mv (.t 1)),
.s 15 (.callv (.t 14) [(.c (.str [98]))]),
.s 16 (.bld [(.int .i64 0),(.str []),.nils] [(0,1,(.c (.int .i64 3))),(1,1,(.c (.str [49])))]),
.s 17 (.bsl 1 3 [(.int .i64 0)] 4 [(0,(.c (.int .i64 9))),(1,(.c (.int .i64 10))),(2,(.c (.int .i64 11))),(3,(.c (.int .i64 12)))]),
.s 18 (.bld [(.int .i64 0),(.str []),.nils] [(0,1,(.c (.int .i64 6))),(2,1,(.t 17))]),
.s 19 (.mv (.t 1)),
.s 20 (.callv (.t 19) [(.c (.str [107]))]),
.s 21 (.mv (.t 1)),
.s 22 (.callv (.t 21) [(.c (.str [119]))]),
.s 23 (.mv (.t 1)),
.s 24 (.callv (.t 23) [(.c (.str [98]))]),
.s 25 (.bld [(.int .i64 0),(.str []),.nils] [(0,1,(.c (.int .i64 3))),(1,1,(.c (.str [50])))]),
.s 26 (.bsl 3 68 [(.int .i64 0),(.str []),.nils] 13 [(0,(.t 3)),(1,(.t 5)),(2,(.t 7)),(3,(.t 9)),(4,(.t 11)),(5,(.t 13)),(6,(.t 15)),(7,(.t 16)),(8,(.t 18)),(9,(.t 20)),(10,(.t 22)),(11,(.t 24)),(12,(.t 25))]),
.s 27 (.bld [.nils,(.int .i64 0)] [(0,1,(.t 26))]),
.n (.st 2 (.t 0) (.t 27))] [0])
.ret)))
theorem ok48 : FnOk Go.Proofs.Tryz.prog 48 ⟨28, [.c 0 2 true], S48⟩ :=
  FnOk.of [[0],[0,1],[0]] Go.Proofs.Tryz.func48 (by kernel_rfl) (by kernel_rfl) (by kernel_rfl) (by kernel_rfl) (by kernel_rfl) (by kernel_rfl)
def S49 : S :=
(.seq (.reg [.s 2 (.mv (.c (.str []))),
.s 3 (.mv (.c (.int .i64 0)))] [0])
(.seq (.seq (.reg [.s 9 (.mv (.t 0)),
.s 10 (.call 102 [(.t 9),(.c (.fn 103 [] []))])] [0,10])
(.cond (.t 10)
(.seq (.reg [.s 2 (.mv (.c (.str []))),
.s 3 (.mv (.c (.int .i64 1)))] [2,3])
.ret)
.skip))
(.seq (.seq (.reg [.s 11 (.mv (.t 0)),
.s 12 (.len 1 (.t 11)),
.s 13 (.bin .gtr .base (.t 12) (.c (.int .i64 32))),
.s 14 (.mv (.t 13)),
.z 15 (.mv (.t 0)) 14,
.z 16 (.call 102 [(.t 15),(.c (.fn 105 [] []))]) 14,
.s 17 (.pick (.t 14) (.c (.bool true)) (.t 16))] [0,17])
(.cond (.t 17)
(.seq (.reg [.s 2 (.mv (.c (.str []))),
.s 3 (.mv (.c (.int .i64 5)))] [2,3])
.ret)
.skip))
(.seq (.reg [.s 4 (.new [.nilp,.nils] 190)] [4,0])
(.seq (.seq (.reg [.s 18 (.mv (.t 0)),
.s 19 (.len 1 (.t 18)),
.s 20 (.mv (.c (.int .i64 0)))] [20,4,18,19])
(.block 0 (.loop (.seq (.reg [.s 21 (.bin .lss .base (.t 20) (.t 19))] [4,18,19,20,21])
(.seq (.cond (.t 21)
.skip
(.exit 0))
(.seq (.block 1 (.seq (.reg [.s 22 (.mv (.t 20)),
.s 23 (.iad 4 (.t 18) (.t 20)),
.s 24 (.ld 4 true (.t 23)),
.s 6 (.new [(.int .i64 0),(.str []),(.str []),(.int .i64 0)] 45),
.s 5 (.mv (.t 22)),
.n (.st 4 (.t 6) (.t 24))] [4,18,19,20,6,5])
(.seq (.reg [.s 26 (.ld 4 true (.t 6)),
.s 27 (.call 106 [(.t 26)]),
.s 25 (.mv (.t 27)),
.s 28 (.ext (.t 25) 0),
.s 29 (.ext (.t 25) 1),
.s 7 (.mv (.t 28)),
.s 8 (.mv (.t 29))] [8,4,18,19,20,7,6,5])
(.seq (.seq (.reg [.s 30 (.mv (.t 8)),
.s 31 (.bin .neq .base (.t 30) (.c (.int .i64 0)))] [8,4,18,19,20,7,6,5,31])
(.cond (.t 31)
(.seq (.reg [.s 32 (.mv (.t 8)),
.s 2 (.mv (.c (.str []))),
.s 3 (.mv (.t 32))] [2,3])
.ret)
.skip))
(.seq (.seq (.reg [.s 33 (.mv (.t 5)),
.s 34 (.bin .gtr .base (.t 33) (.c (.int .i64 0))),
.s 35 (.mv (.t 34)),
.y 36 (.fad 0 (.t 6)) 35,
.y 37 (.ld 1 false (.t 36)) 35,
.y 38 (.bin .leq .base (.t 37) (.c (.int .i64 3))) 35,
.s 39 (.pick (.t 35) (.t 38) (.c (.bool false)))] [4,18,19,20,7,39])
(.cond (.t 39)
(.reg [.s 40 (.call 107 [(.t 4),(.c (.int .u8 46))])] [4,18,19,20,7])
.skip))
(.reg [.s 41 (.mv (.t 7)),
.s 42 (.call 108 [(.t 4),(.t 41)])] [4,18,19,20]))))))
(.reg [.s 43 (.bin .add .base (.t 20) (.c (.int .i64 1))),
.s 20 (.mv (.t 43))] [20,4,18,19])))))))
(.seq (.reg [.s 44 (.call 109 [(.t 4)]),
.s 2 (.mv (.t 44)),
.s 3 (.mv (.c (.int .i64 0)))] [2,3])
.ret))))))
theorem ok49 : FnOk Go.Proofs.Tryz.prog 49 ⟨45, [.t 2,.t 3], S49⟩ :=
  FnOk.of [[0],[0,10],[2,3],[0,17],[2,3],[4,0],[20,4,18,19],[4,18,19,20,21],[4,18,19,20,6,5],[8,4,18,19,20,7,6,5],[8,4,18,19,20,7,6,5,31],[2,3],[4,18,19,20,7,39],[4,18,19,20,7],[4,18,19,20],[20,4,18,19],[2,3]] Go.Proofs.Tryz.func49 (by kernel_rfl) (by kernel_rfl) (by kernel_rfl) (by kernel_rfl) (by kernel_rfl) (by kernel_rfl)
def S50 : S :=
(.seq (.reg [.s 2 (.mv (.c (.int .u64 0)))] [0])
(.seq (.reg [.s 3 (.mv (.t 0)),
.s 4 (.call 110 [(.t 3),(.c (.int .u64 1))]),
.s 2 (.mv (.t 4))] [2])
.ret))
theorem ok50 : FnOk Go.Proofs.Tryz.prog 50 ⟨5, [.t 2], S50⟩ :=
  FnOk.of [[0],[2]] Go.Proofs.Tryz.func50 (by kernel_rfl) (by kernel_rfl) (by kernel_rfl) (by kernel_rfl) (by kernel_rfl) (by kernel_rfl)
def S51 : S :=
(.seq (.reg [.s 6 (.box 3 85 (.t 2)),
.s 8 (.mv (.c (.int .u64 0)))] [3,6,0,1])
(.seq (.reg [.s 9 (.mv (.c (.int .u64 0)))] [9,3,6,0,1])
(.seq (.seq (.reg [.s 12 (.mv (.t 0)),
.s 13 (.nck (.t 12)),
.s 14 (.fad 2 (.t 13)),
.s 15 (.ld 1 false (.t 14)),
.s 16 (.len 1 (.t 15)),
.s 17 (.mv (.c (.int .i64 0)))] [17,9,3,6,0,1,15,16])
(.block 0 (.loop (.seq (.reg [.s 18 (.bin .lss .base (.t 17) (.t 16))] [9,3,6,0,1,15,16,17,18])
(.seq (.cond (.t 18)
.skip
(.exit 0))
(.seq (.block 1 (.seq (.reg [.s 19 (.mv (.t 17)),
.s 20 (.iad 4 (.t 15) (.t 17)),
.s 21 (.ld 4 true (.t 20)),
.s 11 (.new [(.int .i64 0),(.str []),(.str []),(.int .i64 0)] 45),
.s 10 (.mv (.t 19)),
.n (.st 4 (.t 11) (.t 21))] [9,3,6,0,1,15,16,17,10,11])
(.block 2 (.seq (.reg [.s 23 (.mv (.t 1)),
.s 24 (.mv (.t 10)),
.s 25 (.bin .shr .base (.t 23) (.t 24)),
.s 26 (.bin .and .base (.t 25) (.c (.int .u64 1))),
.s 27 (.bin .eql .base (.t 26) (.c (.int .u64 0))),
.s 22 (.mv (.t 27))] [9,3,6,0,1,15,16,17,10,11,22])
(.cond (.t 22)
.skip
(.seq (.reg [.s 29 (.fad 0 (.t 11)),
.s 30 (.ld 1 false (.t 29)),
.s 31 (.bin .eql .base (.t 30) (.c (.int .i64 3))),
.s 28 (.mv (.t 31))] [3,6,0,1,15,16,17,10,9,11,28])
(.cond (.t 28)
(.reg [.s 32 (.mv (.t 9)),
.s 33 (.mv (.t 10)),
.s 34 (.bin .shl .base (.c (.int .u64 1)) (.t 33)),
.s 35 (.bin .or .base (.t 32) (.t 34)),
.s 9 (.mv (.t 35))] [9,3,6,0,1,15,16,17])
(.seq (.reg [.s 37 (.mv (.t 0)),
.s 38 (.ld 4 true (.t 11)),
.s 39 (.ld 3 true (.t 6)),
.s 40 (.mv (.t 3)),
.s 41 (.call 111 [(.t 37),(.t 38),(.t 39),(.t 40)]),
.s 36 (.mv (.t 41))] [3,6,0,1,15,16,17,10,9,36])
(.cond (.t 36)
(.reg [.s 42 (.mv (.t 9)),
.s 43 (.mv (.t 10)),
.s 44 (.bin .add .base (.t 43) (.c (.int .i64 1))),
.s 45 (.bin .shl .base (.c (.int .u64 1)) (.t 44)),
.s 46 (.bin .or .base (.t 42) (.t 45)),
.s 9 (.mv (.t 46))] [9,3,6,0,1,15,16,17])
.skip)))))))))
(.reg [.s 47 (.bin .add .base (.t 17) (.c (.int .i64 1))),
.s 17 (.mv (.t 47))] [17,9,3,6,0,1,15,16])))))))
(.seq (.reg [.s 48 (.mv (.t 0)),
.s 49 (.mv (.t 9)),
.s 50 (.call 110 [(.t 48),(.t 49)]),
.s 8 (.mv (.t 50))] [8])
.ret))))
theorem ok51 : FnOk Go.Proofs.Tryz.prog 51 ⟨51, [.t 8], S51⟩ :=
  FnOk.of [[3,6,0,1],[9,3,6,0,1],[17,9,3,6,0,1,15,16],[9,3,6,0,1,15,16,17,18],[9,3,6,0,1,15,16,17,10,11],[9,3,6,0,1,15,16,17,10,11,22],[3,6,0,1,15,16,17,10,9,11,28],[9,3,6,0,1,15,16,17],[3,6,0,1,15,16,17,10,9,36],[9,3,6,0,1,15,16,17],[17,9,3,6,0,1,15,16],[8]] Go.Proofs.Tryz.func51 (by kernel_rfl) (by kernel_rfl) (by kernel_rfl) (by kernel_rfl) (by kernel_rfl) (by kernel_rfl)
def S52 : S :=
(.seq (.reg [.s 4 (.mv (.c (.bool false)))] [0,1])
(.seq (.reg [.s 5 (.mv (.t 1)),
.s 6 (.mv (.t 0)),
.s 7 (.nck (.t 6)),
.s 8 (.fad 2 (.t 7)),
.s 9 (.ld 1 false (.t 8)),
.s 10 (.len 1 (.t 9)),
.s 11 (.bin .shr .base (.t 5) (.t 10)),
.s 12 (.bin .and .base (.t 11) (.c (.int .u64 1))),
.s 13 (.bin .eql .base (.t 12) (.c (.int .u64 1))),
.s 4 (.mv (.t 13))] [4])
.ret))
theorem ok52 : FnOk Go.Proofs.Tryz.prog 52 ⟨14, [.t 4], S52⟩ :=
  FnOk.of [[0,1],[4]] Go.Proofs.Tryz.func52 (by kernel_rfl) (by kernel_rfl) (by kernel_rfl) (by kernel_rfl) (by kernel_rfl) (by kernel_rfl)
def S56 : S :=
(.seq (.reg [.s 13 (.mv (.t 0)),
.s 14 (.nck (.t 13)),
.s 15 (.fad 4 (.t 14)),
.s 16 (.ld 1 false (.t 15)),
.s 17 (.bin .sub .base (.t 16) (.c (.int .i64 1))),
.s 18 (.nck (.t 13)),
.s 19 (.fad 4 (.t 18)),
.n (.st 1 (.t 19) (.t 17))] [3,0,2,1])
(.seq (.seq (.reg [.s 20 (.mv (.t 0)),
.s 21 (.nck (.t 20)),
.s 22 (.fad 4 (.t 21)),
.s 23 (.ld 1 false (.t 22)),
.s 24 (.bin .lss .base (.t 23) (.c (.int .i64 0)))] [3,0,2,1,24])
(.cond (.t 24)
.ret
.skip))
(.seq (.seq (.reg [.s 25 (.mv (.t 0)),
.s 26 (.nck (.t 25)),
.s 27 (.fad 0 (.t 26)),
.s 28 (.mv (.t 3)),
.s 29 (.call 52 [(.t 27),(.t 28)])] [3,0,2,1,29])
(.cond (.t 29)
(.regD [(0, .s 30 (.mv (.t 0)), 0),
(1, .s 31 (.mv (.t 0)), 0),
(2, .s 32 (.nck (.t 31)), 2),
(3, .s 33 (.fad 3 (.t 32)), 6),
(4, .s 34 (.ld 1 false (.t 33)), 14),
(5, .s 35 (.mv (.t 2)), 0),
(6, .s 36 (.call 115 [(.t 35)]), 32),
(7, .s 37 (.bsl 1 36 [.nils] 1 [(0,(.t 36))]), 96),
(8, .s 38 (.ap 1 24 36 (.t 34) (.t 37)), 254),
(9, .s 39 (.nck (.t 30)), 511),
(10, .s 40 (.fad 3 (.t 39)), 1023),
(11, .n (.st 1 (.t 40) (.t 38)), 2047)] [3,0,2,1])
.skip))
(.seq (.seq (.reg [.s 41 (.mv (.t 3)),
.s 42 (.bin .eql .base (.t 41) (.c (.int .u64 0))),
.s 43 (.mv (.t 42)),
.z 44 (.mv (.t 2)) 43,
.z 45 (.len 1 (.t 44)) 43,
.z 46 (.bin .eql .base (.t 45) (.c (.int .i64 64))) 43,
.s 47 (.pick (.t 43) (.c (.bool true)) (.t 46))] [3,0,2,1,47])
(.cond (.t 47)
.ret
.skip))
(.seq (.reg [.s 48 (.mv (.t 0)),
.s 49 (.nck (.t 48)),
.s 50 (.fad 5 (.t 49)),
.s 51 (.ld 1 false (.t 50)),
.s 52 (.mv (.t 1)),
.s 53 (.iad 1 (.t 51) (.t 52)),
.n (.st 1 (.t 53) (.c (.bool true)))] [3,0,2,1])
(.seq (.reg [.s 54 (.mv (.t 0)),
.s 55 (.nck (.t 54)),
.s 56 (.fad 0 (.t 55)),
.s 57 (.fad 0 (.t 56)),
.s 58 (.fad 0 (.t 57)),
.s 59 (.ld 1 false (.t 58)),
.s 60 (.mv (.t 1)),
.s 61 (.iad 3 (.t 59) (.t 60)),
.s 62 (.ld 3 true (.t 61)),
.s 8 (.new [(.int .i64 0),(.str []),.nils] 68),
.n (.st 3 (.t 8) (.t 62))] [3,0,2,8,1])
(.seq (.seq (.reg [.s 63 (.fad 2 (.t 8)),
.s 64 (.ld 1 false (.t 63)),
.s 65 (.len 1 (.t 64)),
.s 66 (.mv (.c (.int .i64 0)))] [66,3,0,2,8,64,1,65])
(.block 0 (.loop (.seq (.reg [.s 67 (.bin .lss .base (.t 66) (.t 65))] [3,0,2,8,64,1,65,66,67])
(.seq (.cond (.t 67)
.skip
(.exit 0))
(.seq (.block 1 (.seq (.reg [.s 68 (.mv (.t 66)),
.s 69 (.iad 1 (.t 64) (.t 66)),
.s 70 (.ld 1 false (.t 69)),
.s 9 (.mv (.t 68)),
.s 10 (.mv (.t 70))] [3,0,2,8,64,1,65,66,10,9])
(.seq (.reg [.s 71 (.mv (.t 9)),
.s 72 (.bld [(.str []),(.int .i64 0),(.bool false)] [(1,1,(.t 71)),(2,1,(.c (.bool true)))]),
.s 11 (.new [(.str []),(.int .i64 0),(.bool false)] 85),
.n (.st 3 (.t 11) (.t 72))] [3,0,2,8,64,1,65,66,10,11,9])
(.seq (.seq (.reg [.s 73 (.fad 0 (.t 8)),
.s 74 (.ld 1 false (.t 73)),
.s 75 (.bin .eql .base (.t 74) (.c (.int .i64 6)))] [3,0,2,8,64,1,65,66,10,11,9,75])
(.cond (.t 75)
(.seq (.seq (.reg [.s 76 (.mv (.t 9)),
.s 77 (.bin .rem .base (.t 76) (.c (.int .i64 2))),
.s 78 (.bin .eql .base (.t 77) (.c (.int .i64 0)))] [3,0,2,8,64,1,65,66,10,11,9,78])
(.cond (.t 78)
(.exit 1)
.skip))
(.seq (.regD [(0, .s 79 (.mv (.t 0)), 0),
(1, .s 80 (.nck (.t 79)), 1),
(2, .s 81 (.fad 0 (.t 80)), 3),
(3, .s 82 (.fad 0 (.t 81)), 7),
(4, .s 83 (.fad 0 (.t 82)), 15),
(5, .s 84 (.ld 1 false (.t 83)), 31),
(6, .s 85 (.fad 2 (.t 8)), 0),
(7, .s 86 (.ld 1 false (.t 85)), 64),
(8, .s 87 (.mv (.t 9)), 0),
(9, .s 88 (.bin .sub .base (.t 87) (.c (.int .i64 1))), 256),
(10, .s 89 (.iad 1 (.t 86) (.t 88)), 960),
(11, .s 90 (.ld 1 false (.t 89)), 1984),
(12, .s 91 (.iad 3 (.t 84) (.t 90)), 4095),
(13, .s 92 (.ld 3 true (.t 91)), 8191),
(14, .s 12 (.new [(.int .i64 0),(.str []),.nils] 68), 0),
(15, .n (.st 3 (.t 12) (.t 92)), 32767)] [3,0,2,8,64,1,65,66,10,11,12])
(.seq (.seq (.reg [.s 93 (.fad 0 (.t 12)),
.s 94 (.ld 1 false (.t 93)),
.s 95 (.bin .neq .base (.t 94) (.c (.int .i64 4))),
.s 96 (.mv (.t 95)),
.z 97 (.fad 1 (.t 12)) 96,
.z 98 (.ld 1 false (.t 97)) 96,
.z 99 (.len 0 (.t 98)) 96,
.z 100 (.bin .gtr .base (.t 99) (.c (.int .i64 256))) 96,
.s 101 (.pick (.t 96) (.c (.bool true)) (.t 100))] [3,0,2,8,64,1,65,66,10,11,12,101])
(.cond (.t 101)
(.exit 1)
.skip))
(.reg [.s 102 (.fad 1 (.t 12)),
.s 103 (.ld 1 false (.t 102)),
.s 104 (.bld [(.str []),(.int .i64 0),(.bool false)] [(0,1,(.t 103))]),
.n (.st 3 (.t 11) (.t 104))] [3,0,2,8,64,1,65,66,10,11]))))
.skip))
(.seq (.reg [.s 105 (.mv (.t 0)),
.s 106 (.nck (.t 105)),
.s 107 (.fad 5 (.t 106)),
.s 108 (.ld 1 false (.t 107)),
.s 109 (.mv (.t 10)),
.s 110 (.iad 1 (.t 108) (.t 109)),
.s 111 (.ld 1 false (.t 110)),
.s 112 (.un .not (.t 111)),
.s 113 (.mv (.t 112)),
.y 114 (.mv (.t 0)) 113,
.y 115 (.nck (.t 114)) 113,
.y 116 (.fad 4 (.t 115)) 113,
.y 117 (.ld 1 false (.t 116)) 113,
.y 118 (.bin .geq .base (.t 117) (.c (.int .i64 0))) 113,
.s 119 (.pick (.t 113) (.t 118) (.c (.bool false)))] [3,0,2,8,64,1,65,66,10,11,119])
(.cond (.t 119)
(.regD [(0, .s 120 (.mv (.t 0)), 0),
(1, .s 121 (.mv (.t 10)), 0),
(2, .s 122 (.mv (.t 2)), 0),
(3, .s 123 (.mv (.t 2)), 0),
(4, .s 124 (.len 1 (.t 123)), 8),
(5, .s 125 (.mv (.t 2)), 0),
(6, .s 126 (.len 1 (.t 125)), 32),
(7, .s 127 (.sL 3 (.t 122) none (some (.t 124)) (some (.t 126))), 124),
(8, .s 128 (.ld 3 true (.t 11)), 0),
(11, .s 131 (.mv (.t 0)), 0),
(12, .s 132 (.nck (.t 131)), 2048),
(13, .s 133 (.fad 0 (.t 132)), 6144),
(14, .s 134 (.mv (.t 3)), 0),
(15, .s 135 (.ld 3 true (.t 11)), 0),
(16, .s 136 (.mv (.t 10)), 0),
(9, .s 129 (.bsl 3 85 [(.str []),(.int .i64 0),(.bool false)] 1 [(0,(.t 128))]), 256),
(10, .s 130 (.ap 3 32 85 (.t 127) (.t 129)), 1020),
(17, .s 137 (.call 51 [(.t 133),(.t 134),(.t 135),(.t 136)]), 131068),
(18, .s 138 (.call 56 [(.t 120),(.t 121),(.t 130),(.t 137)]), 262143)] [3,0,2,8,64,1,65,66])
.skip))))))
(.reg [.s 139 (.bin .add .base (.t 66) (.c (.int .i64 1))),
.s 66 (.mv (.t 139))] [66,3,0,2,8,64,1,65])))))))
(.reg [.s 140 (.mv (.t 0)),
.s 141 (.nck (.t 140)),
.s 142 (.fad 5 (.t 141)),
.s 143 (.ld 1 false (.t 142)),
.s 144 (.mv (.t 1)),
.s 145 (.iad 1 (.t 143) (.t 144)),
.n (.st 1 (.t 145) (.c (.bool false)))] []))))))))
theorem ok56 : FnOk Go.Proofs.Tryz.prog 56 ⟨146, [], S56⟩ :=
  FnOk.of [[3,0,2,1],[3,0,2,1,24],[3,0,2,1,29],[3,0,2,1],[3,0,2,1,47],[3,0,2,1],[3,0,2,8,1],[66,3,0,2,8,64,1,65],[3,0,2,8,64,1,65,66,67],[3,0,2,8,64,1,65,66,10,9],[3,0,2,8,64,1,65,66,10,11,9],[3,0,2,8,64,1,65,66,10,11,9,75],[3,0,2,8,64,1,65,66,10,11,9,78],[3,0,2,8,64,1,65,66,10,11,12],[3,0,2,8,64,1,65,66,10,11,12,101],[3,0,2,8,64,1,65,66,10,11],[3,0,2,8,64,1,65,66,10,11,119],[3,0,2,8,64,1,65,66],[66,3,0,2,8,64,1,65],[]] Go.Proofs.Tryz.func56 (by kernel_rfl) (by kernel_rfl) (by kernel_rfl) (by kernel_rfl) (by kernel_rfl) (by kernel_rfl)
def S57 : S :=
(.seq (.reg [.s 1 (.box 3 85 (.t 0)),
.s 2 (.new [(.str []),(.int .i64 0),(.bool false)] 85)] [2,1])
(.seq (.seq (.reg [.s 3 (.fad 2 (.t 1)),
.s 4 (.ld 1 false (.t 3))] [2,1,4])
(.cond (.t 4)
(.seq (.reg [.s 5 (.fad 1 (.t 1)),
.s 6 (.ld 1 false (.t 5)),
.s 7 (.bld [(.str []),(.int .i64 0),(.bool false)] [(1,1,(.t 6)),(2,1,(.c (.bool true)))]),
.n (.st 3 (.t 2) (.t 7))] [2])
.ret)
.skip))
(.seq (.reg [.s 8 (.fad 0 (.t 1)),
.s 9 (.ld 1 false (.t 8)),
.s 10 (.bld [(.str []),(.int .i64 0),(.bool false)] [(0,1,(.t 9))]),
.n (.st 3 (.t 2) (.t 10))] [2])
.ret)))
theorem ok57 : FnOk Go.Proofs.Tryz.prog 57 ⟨11, [.c 2 3 true], S57⟩ :=
  FnOk.of [[2,1],[2,1,4],[2],[2]] Go.Proofs.Tryz.func57 (by kernel_rfl) (by kernel_rfl) (by kernel_rfl) (by kernel_rfl) (by kernel_rfl) (by kernel_rfl)
def S58 : S :=
(.seq (.reg [.s 2 (.mv (.c (.str []))),
.s 3 (.mv (.c (.int .i64 0)))] [0])
(.seq (.seq (.reg [.s 11 (.mv (.t 0)),
.s 12 (.len 1 (.t 11)),
.s 13 (.bin .gtr .base (.t 12) (.c (.int .i64 64)))] [0,13])
(.cond (.t 13)
(.seq (.reg [.s 2 (.mv (.c (.str []))),
.s 3 (.mv (.c (.int .i64 5)))] [2,3])
.ret)
.skip))
(.seq (.seq (.reg [.s 14 (.mv (.t 0)),
.s 15 (.len 1 (.t 14)),
.s 16 (.mv (.c (.int .i64 0)))] [16,14,0,15])
(.block 0 (.loop (.seq (.reg [.s 17 (.bin .lss .base (.t 16) (.t 15))] [14,0,15,16,17])
(.seq (.cond (.t 17)
.skip
(.exit 0))
(.seq (.block 1 (.seq (.reg [.s 18 (.iad 3 (.t 14) (.t 16)),
.s 19 (.ld 3 true (.t 18)),
.s 5 (.new [(.str []),(.int .i64 0),(.bool false)] 85),
.n (.st 3 (.t 5) (.t 19))] [14,0,15,16,5])
(.seq (.reg [.s 20 (.fad 2 (.t 5)),
.s 21 (.ld 1 false (.t 20)),
.s 22 (.mv (.t 21)),
.y 23 (.fad 1 (.t 5)) 22,
.y 24 (.ld 1 false (.t 23)) 22,
.y 25 (.bin .lss .base (.t 24) (.c (.int .i64 0))) 22,
.y 26 (.mv (.t 25)) 22,
.z 27 (.fad 1 (.t 5)) 26,
.z 28 (.ld 1 false (.t 27)) 26,
.z 29 (.bin .gtr .base (.t 28) (.c (.int .i64 999999))) 26,
.y 30 (.pick (.t 26) (.c (.bool true)) (.t 29)) 22,
.s 31 (.pick (.t 22) (.t 30) (.c (.bool false))),
.s 32 (.mv (.t 31)),
.z 33 (.fad 2 (.t 5)) 32,
.z 34 (.ld 1 false (.t 33)) 32,
.z 35 (.un .not (.t 34)) 32,
.z 36 (.mv (.t 35)) 32,
.y 37 (.fad 0 (.t 5)) 36,
.y 38 (.ld 1 false (.t 37)) 36,
.y 39 (.len 0 (.t 38)) 36,
.y 40 (.bin .gtr .base (.t 39) (.c (.int .i64 256))) 36,
.z 41 (.pick (.t 36) (.t 40) (.c (.bool false))) 32,
.s 42 (.pick (.t 32) (.c (.bool true)) (.t 41))] [14,0,15,16,42])
(.cond (.t 42)
(.seq (.reg [.s 2 (.mv (.c (.str []))),
.s 3 (.mv (.c (.int .i64 5)))] [2,3])
.ret)
.skip))))
(.reg [.s 43 (.bin .add .base (.t 16) (.c (.int .i64 1))),
.s 16 (.mv (.t 43))] [16,14,0,15])))))))
(.seq (.reg [.s 6 (.new [.nilp,.nils] 190)] [6,0])
(.seq (.seq (.reg [.s 44 (.mv (.t 0)),
.s 45 (.len 1 (.t 44)),
.s 46 (.mv (.c (.int .i64 0)))] [46,6,44,45])
(.block 2 (.loop (.seq (.reg [.s 47 (.bin .lss .base (.t 46) (.t 45))] [6,44,45,46,47])
(.seq (.cond (.t 47)
.skip
(.exit 2))
(.seq (.block 3 (.seq (.reg [.s 48 (.mv (.t 46)),
.s 49 (.iad 3 (.t 44) (.t 46)),
.s 50 (.ld 3 true (.t 49)),
.s 8 (.new [(.str []),(.int .i64 0),(.bool false)] 85),
.s 7 (.mv (.t 48)),
.n (.st 3 (.t 8) (.t 50))] [6,44,45,46,8,7])
(.seq (.seq (.reg [.s 51 (.fad 2 (.t 8)),
.s 52 (.ld 1 false (.t 51))] [6,44,45,46,8,7,52])
(.cond (.t 52)
(.seq (.reg [.s 53 (.fad 1 (.t 8)),
.s 54 (.ld 1 false (.t 53)),
.s 55 (.call 116 [(.t 54)]),
.s 56 (.bin .add .base (.c (.str [91])) (.t 55)),
.s 57 (.bin .add .base (.t 56) (.c (.str [93]))),
.s 58 (.call 108 [(.t 6),(.t 57)])] [6,44,45,46])
(.exit 3))
.skip))
(.seq (.reg [.s 60 (.fad 0 (.t 8)),
.s 61 (.ld 1 false (.t 60)),
.s 62 (.call 117 [(.t 61)]),
.s 59 (.mv (.t 62)),
.s 63 (.ext (.t 59) 0),
.s 64 (.ext (.t 59) 1),
.s 9 (.mv (.t 63)),
.s 10 (.mv (.t 64))] [10,6,44,45,46,9,7])
(.seq (.seq (.reg [.s 65 (.mv (.t 10)),
.s 66 (.bin .neq .base (.t 65) (.c (.int .i64 0)))] [10,6,44,45,46,9,7,66])
(.cond (.t 66)
(.seq (.reg [.s 67 (.mv (.t 10)),
.s 2 (.mv (.c (.str []))),
.s 3 (.mv (.t 67))] [2,3])
.ret)
.skip))
(.seq (.seq (.reg [.s 68 (.mv (.t 7)),
.s 69 (.bin .gtr .base (.t 68) (.c (.int .i64 0)))] [6,44,45,46,9,69])
(.cond (.t 69)
(.reg [.s 70 (.call 107 [(.t 6),(.c (.int .u8 46))])] [6,44,45,46,9])
.skip))
(.reg [.s 71 (.mv (.t 9)),
.s 72 (.call 108 [(.t 6),(.t 71)])] [6,44,45,46])))))))
(.reg [.s 73 (.bin .add .base (.t 46) (.c (.int .i64 1))),
.s 46 (.mv (.t 73))] [46,6,44,45])))))))
(.seq (.reg [.s 74 (.call 109 [(.t 6)]),
.s 2 (.mv (.t 74)),
.s 3 (.mv (.c (.int .i64 0)))] [2,3])
.ret))))))
theorem ok58 : FnOk Go.Proofs.Tryz.prog 58 ⟨75, [.t 2,.t 3], S58⟩ :=
  FnOk.of [[0],[0,13],[2,3],[16,14,0,15],[14,0,15,16,17],[14,0,15,16,5],[14,0,15,16,42],[2,3],[16,14,0,15],[6,0],[46,6,44,45],[6,44,45,46,47],[6,44,45,46,8,7],[6,44,45,46,8,7,52],[6,44,45,46],[10,6,44,45,46,9,7],[10,6,44,45,46,9,7,66],[2,3],[6,44,45,46,9,69],[6,44,45,46,9],[6,44,45,46],[46,6,44,45],[2,3]] Go.Proofs.Tryz.func58 (by kernel_rfl) (by kernel_rfl) (by kernel_rfl) (by kernel_rfl) (by kernel_rfl) (by kernel_rfl)
end Go.Eng.Tryz
namespace Go.Eng.Tryz
open Go.Eng
def S81 : S :=
(.seq (.reg [.s 2 (.box 2 24 (.t 0)),
.s 3 (.box 3 68 (.t 1)),
.s 4 (.mv (.c (.bool false)))] [2,3])
(.seq (.seq (.reg [.s 9 (.fad 0 (.t 3)),
.s 10 (.ld 1 false (.t 9)),
.s 11 (.bin .lss .base (.t 10) (.c (.int .i64 1))),
.s 12 (.mv (.t 11)),
.z 13 (.fad 0 (.t 3)) 12,
.z 14 (.ld 1 false (.t 13)) 12,
.z 15 (.bin .gtr .base (.t 14) (.c (.int .i64 6))) 12,
.s 16 (.pick (.t 12) (.c (.bool true)) (.t 15)),
.s 17 (.mv (.t 16)),
.z 18 (.fad 0 (.t 3)) 17,
.z 19 (.ld 1 false (.t 18)) 17,
.z 20 (.fad 1 (.t 3)) 17,
.z 21 (.ld 1 false (.t 20)) 17,
.z 22 (.call 137 [(.t 19),(.t 21)]) 17,
.z 23 (.un .not (.t 22)) 17,
.s 24 (.pick (.t 17) (.c (.bool true)) (.t 23))] [2,3,24])
(.cond (.t 24)
(.seq (.reg [.s 4 (.mv (.c (.bool false)))] [4])
.ret)
.skip))
(.seq (.seq (.reg [.s 25 (.fad 0 (.t 3)),
.s 26 (.ld 1 false (.t 25)),
.s 27 (.call 138 [(.t 26)]),
.s 28 (.mv (.t 27)),
.y 29 (.fad 2 (.t 3)) 28,
.y 30 (.ld 1 false (.t 29)) 28,
.y 31 (.len 1 (.t 30)) 28,
.y 32 (.bin .gtr .base (.t 31) (.c (.int .i64 0))) 28,
.s 33 (.pick (.t 28) (.t 32) (.c (.bool false))),
.s 34 (.mv (.t 33)),
.z 35 (.fad 0 (.t 3)) 34,
.z 36 (.ld 1 false (.t 35)) 34,
.z 37 (.bin .eql .base (.t 36) (.c (.int .i64 6))) 34,
.z 38 (.mv (.t 37)) 34,
.y 39 (.fad 2 (.t 3)) 38,
.y 40 (.ld 1 false (.t 39)) 38,
.y 41 (.len 1 (.t 40)) 38,
.y 42 (.bin .rem .base (.t 41) (.c (.int .i64 2))) 38,
.y 43 (.bin .neq .base (.t 42) (.c (.int .i64 0))) 38,
.z 44 (.pick (.t 38) (.t 43) (.c (.bool false))) 34,
.s 45 (.pick (.t 34) (.c (.bool true)) (.t 44))] [2,3,45])
(.cond (.t 45)
(.seq (.reg [.s 4 (.mv (.c (.bool false)))] [4])
.ret)
.skip))
(.seq (.seq (.reg [.s 46 (.fad 2 (.t 3)),
.s 47 (.ld 1 false (.t 46)),
.s 48 (.mkF 139 [] [(.t 2)]),
.s 49 (.call 82 [(.t 47),(.t 48)])] [2,3,49])
(.cond (.t 49)
(.seq (.reg [.s 4 (.mv (.c (.bool false)))] [4])
.ret)
.skip))
(.seq (.reg [.s 50 (.mkM),
.s 5 (.mv (.t 50))] [5,2,3])
(.seq (.seq (.reg [.s 51 (.ld 3 true (.t 3)),
.s 52 (.call 83 [(.t 51)]),
.s 53 (.len 1 (.t 52)),
.s 54 (.mv (.c (.int .i64 0)))] [54,5,2,52,53])
(.block 0 (.loop (.seq (.reg [.s 55 (.bin .lss .base (.t 54) (.t 53))] [5,2,52,53,54,55])
(.seq (.cond (.t 55)
.skip
(.exit 0))
(.seq (.block 1 (.seq (.reg [.s 56 (.iad 1 (.t 52) (.t 54)),
.s 57 (.ld 1 false (.t 56)),
.s 7 (.mv (.t 57))] [5,2,52,53,54,7])
(.seq (.regD [(0, .s 58 (.fad 0 (.t 2)), 0),
(1, .s 59 (.ld 1 false (.t 58)), 1),
(2, .s 60 (.mv (.t 7)), 0),
(3, .s 61 (.iad 3 (.t 59) (.t 60)), 7),
(4, .s 62 (.fad 0 (.t 61)), 15),
(5, .s 63 (.ld 1 false (.t 62)), 31),
(6, .s 64 (.fad 0 (.t 2)), 0),
(7, .s 65 (.ld 1 false (.t 64)), 64),
(8, .s 66 (.mv (.t 7)), 0),
(9, .s 67 (.iad 3 (.t 65) (.t 66)), 448),
(10, .s 68 (.fad 1 (.t 67)), 960),
(11, .s 69 (.ld 1 false (.t 68)), 1984),
(12, .s 70 (.bld [(.int .i64 0),(.str [])] [(0,1,(.t 63)),(1,1,(.t 69))]), 4095),
(13, .s 8 (.new [(.int .i64 0),(.str [])] 240), 0),
(14, .n (.st 2 (.t 8) (.t 70)), 16383)] [5,2,52,53,54,8])
(.seq (.reg [.s 71 (.fad 0 (.t 8)),
.s 72 (.ld 1 false (.t 71)),
.s 73 (.call 138 [(.t 72)]),
.s 74 (.un .not (.t 73)),
.s 75 (.mv (.t 74)),
.z 76 (.mv (.t 5)) 75,
.z 77 (.ld 2 true (.t 8)) 75,
.z 78 (.call 140 [(.t 76),(.t 77)]) 75,
.z 79 (.un .not (.t 78)) 75,
.s 80 (.pick (.t 75) (.c (.bool true)) (.t 79))] [5,2,52,53,54,80])
(.cond (.t 80)
(.seq (.reg [.s 4 (.mv (.c (.bool false)))] [4])
.ret)
.skip)))))
(.reg [.s 81 (.bin .add .base (.t 54) (.c (.int .i64 1))),
.s 54 (.mv (.t 81))] [54,5,2,52,53])))))))
(.seq (.reg [.s 4 (.mv (.c (.bool true)))] [4])
.ret)))))))
theorem ok81 : FnOk Go.Proofs.Tryz.prog 81 ⟨82, [.t 4], S81⟩ :=
  FnOk.of [[2,3],[2,3,24],[4],[2,3,45],[4],[2,3,49],[4],[5,2,3],[54,5,2,52,53],[5,2,52,53,54,55],[5,2,52,53,54,7],[5,2,52,53,54,8],[5,2,52,53,54,80],[4],[54,5,2,52,53],[4]] Go.Proofs.Tryz.func81 (by kernel_rfl) (by kernel_rfl) (by kernel_rfl) (by kernel_rfl) (by kernel_rfl) (by kernel_rfl)
def S82 : S :=
(.seq (.reg [.s 4 (.mv (.c (.bool false)))] [1,0])
(.seq (.reg [.s 5 (.mv (.t 0)),
.s 6 (.mv (.t 1)),
.s 7 (.call 141 [(.t 5),(.t 6)]),
.s 8 (.bin .geq .base (.t 7) (.c (.int .i64 0))),
.s 4 (.mv (.t 8))] [4])
.ret))
theorem ok82 : FnOk Go.Proofs.Tryz.prog 82 ⟨9, [.t 4], S82⟩ :=
  FnOk.of [[1,0],[4]] Go.Proofs.Tryz.func82 (by kernel_rfl) (by kernel_rfl) (by kernel_rfl) (by kernel_rfl) (by kernel_rfl) (by kernel_rfl)
def S83 : S :=
(.seq (.reg [.s 1 (.box 3 68 (.t 0)),
.s 2 (.mv (.c .nils))] [1])
(.seq (.reg [.s 3 (.mv (.c .nils))] [1,3])
(.seq (.seq (.reg [.s 5 (.fad 0 (.t 1)),
.s 6 (.ld 1 false (.t 5)),
.s 7 (.bin .eql .base (.t 6) (.c (.int .i64 6)))] [1,3,7])
(.cond (.t 7)
(.seq (.reg [.s 4 (.mv (.c (.int .i64 0)))] [4,1,3])
(.block 0 (.loop (.seq (.seq (.reg [.s 8 (.mv (.t 4)),
.s 9 (.bin .add .base (.t 8) (.c (.int .i64 1))),
.s 10 (.fad 2 (.t 1)),
.s 11 (.ld 1 false (.t 10)),
.s 12 (.len 1 (.t 11)),
.s 13 (.bin .lss .base (.t 9) (.t 12))] [1,4,3,13])
(.cond (.t 13)
.skip
(.exit 0)))
(.seq (.block 1 (.reg [.s 16 (.mv (.t 3)),
.s 17 (.fad 2 (.t 1)),
.s 18 (.ld 1 false (.t 17)),
.s 19 (.mv (.t 4)),
.s 20 (.iad 1 (.t 18) (.t 19)),
.s 21 (.ld 1 false (.t 20)),
.s 22 (.bsl 1 3 [(.int .i64 0)] 1 [(0,(.t 21))]),
.s 23 (.ap 1 8 3 (.t 16) (.t 22)),
.s 3 (.mv (.t 23))] [1,3,4]))
(.reg [.s 14 (.mv (.t 4)),
.s 15 (.bin .add .base (.t 14) (.c (.int .i64 2))),
.s 4 (.mv (.t 15))] [4,1,3]))))))
.skip))
(.seq (.reg [.s 24 (.mv (.t 3)),
.s 2 (.mv (.t 24))] [2])
.ret))))
theorem ok83 : FnOk Go.Proofs.Tryz.prog 83 ⟨25, [.t 2], S83⟩ :=
  FnOk.of [[1],[1,3],[1,3,7],[4,1,3],[1,4,3,13],[1,3,4],[4,1,3],[2]] Go.Proofs.Tryz.func83 (by kernel_rfl) (by kernel_rfl) (by kernel_rfl) (by kernel_rfl) (by kernel_rfl) (by kernel_rfl)
def S84 : S :=
(.seq (.reg [.s 3 (.mv (.c (.bool false)))] [0,1])
(.seq (.reg [.s 4 (.ld 1 false (.t 1)),
.s 5 (.mv (.t 0)),
.s 6 (.iad 1 (.t 4) (.t 5)),
.s 7 (.ld 1 false (.t 6)),
.s 8 (.bin .gtr .base (.t 7) (.c (.int .i64 1))),
.s 3 (.mv (.t 8))] [3])
.ret))
theorem ok84 : FnOk Go.Proofs.Tryz.prog 84 ⟨9, [.t 3], S84⟩ :=
  FnOk.of [[0,1],[3]] Go.Proofs.Tryz.func84 (by kernel_rfl) (by kernel_rfl) (by kernel_rfl) (by kernel_rfl) (by kernel_rfl) (by kernel_rfl)
def S97 : S :=
(.seq (.reg [.s 2 (.box 2 24 (.t 0)),
.s 3 (.box 3 68 (.t 1)),
.s 4 (.mv (.c .nilm))] [3,2])
(.seq (.reg [.s 8 (.mkM),
.s 5 (.mv (.t 8))] [3,5,2])
(.seq (.seq (.reg [.s 6 (.mv (.c (.int .i64 0)))] [6,3,5,2])
(.block 0 (.loop (.seq (.seq (.reg [.s 9 (.mv (.t 6)),
.s 10 (.bin .add .base (.t 9) (.c (.int .i64 1))),
.s 11 (.fad 2 (.t 3)),
.s 12 (.ld 1 false (.t 11)),
.s 13 (.len 1 (.t 12)),
.s 14 (.bin .lss .base (.t 10) (.t 13))] [3,5,2,6,14])
(.cond (.t 14)
.skip
(.exit 0)))
(.seq (.block 1 (.seq (.regD [(0, .s 17 (.fad 0 (.t 2)), 0),
(1, .s 18 (.ld 1 false (.t 17)), 1),
(2, .s 19 (.fad 2 (.t 3)), 0),
(3, .s 20 (.ld 1 false (.t 19)), 4),
(4, .s 21 (.mv (.t 6)), 0),
(5, .s 22 (.iad 1 (.t 20) (.t 21)), 28),
(6, .s 23 (.ld 1 false (.t 22)), 60),
(7, .s 24 (.iad 3 (.t 18) (.t 23)), 127),
(8, .s 25 (.ld 3 true (.t 24)), 255),
(9, .s 7 (.new [(.int .i64 0),(.str []),.nils] 68), 0),
(10, .n (.st 3 (.t 7) (.t 25)), 1023)] [3,5,2,6,7])
(.regD [(0, .s 26 (.mv (.t 5)), 0),
(1, .s 27 (.fad 0 (.t 7)), 0),
(2, .s 28 (.ld 1 false (.t 27)), 2),
(3, .s 29 (.fad 1 (.t 7)), 0),
(4, .s 30 (.ld 1 false (.t 29)), 8),
(5, .s 31 (.bld [(.int .i64 0),(.str [])] [(0,1,(.t 28)),(1,1,(.t 30))]), 30),
(6, .s 32 (.fad 2 (.t 3)), 0),
(7, .s 33 (.ld 1 false (.t 32)), 64),
(8, .s 34 (.mv (.t 6)), 0),
(9, .s 35 (.iad 1 (.t 33) (.t 34)), 448),
(10, .s 36 (.ld 1 false (.t 35)), 960),
(11, .s 37 (.fad 2 (.t 3)), 0),
(12, .s 38 (.ld 1 false (.t 37)), 2048),
(13, .s 39 (.mv (.t 6)), 0),
(14, .s 40 (.bin .add .base (.t 39) (.c (.int .i64 1))), 8192),
(15, .s 41 (.iad 1 (.t 38) (.t 40)), 30720),
(16, .s 42 (.ld 1 false (.t 41)), 63488),
(17, .s 43 (.bld [(.int .i64 0),(.int .i64 0)] [(0,1,(.t 36)),(1,1,(.t 42))]), 131008),
(18, .n (.up (.many [.int,.str]) (.t 26) (.t 31) (.t 43)), 262143)] [3,5,2,6])))
(.reg [.s 15 (.mv (.t 6)),
.s 16 (.bin .add .base (.t 15) (.c (.int .i64 2))),
.s 6 (.mv (.t 16))] [6,3,5,2]))))))
(.seq (.reg [.s 44 (.mv (.t 5)),
.s 4 (.mv (.t 44))] [4])
.ret))))
theorem ok97 : FnOk Go.Proofs.Tryz.prog 97 ⟨45, [.t 4], S97⟩ :=
  FnOk.of [[3,2],[3,5,2],[6,3,5,2],[3,5,2,6,14],[3,5,2,6,7],[3,5,2,6],[6,3,5,2],[4]] Go.Proofs.Tryz.func97 (by kernel_rfl) (by kernel_rfl) (by kernel_rfl) (by kernel_rfl) (by kernel_rfl) (by kernel_rfl)
def S98 : S :=
(.seq (.reg [.s 6 (.mv (.t 0)),
.s 7 (.nck (.t 6)),
.s 8 (.fad 2 (.t 7)),
.s 9 (.ld 2 true (.t 8)),
.s 10 (.bld [(.int .i64 0),(.int .i64 0)] []),
.s 11 (.bin .eql (.agg [.int,.int]) (.t 9) (.t 10))] [2,1,0,11])
(.cond (.t 11)
(.reg [.s 12 (.mv (.t 0)),
.s 13 (.mv (.t 1)),
.s 14 (.mv (.t 2)),
.s 15 (.bld [(.int .i64 0),(.int .i64 0)] [(0,1,(.t 13)),(1,1,(.t 14))]),
.s 16 (.nck (.t 12)),
.s 17 (.fad 2 (.t 16)),
.n (.st 2 (.t 17) (.t 15))] [])
.skip))
theorem ok98 : FnOk Go.Proofs.Tryz.prog 98 ⟨18, [], S98⟩ :=
  FnOk.of [[2,1,0,11],[]] Go.Proofs.Tryz.func98 (by kernel_rfl) (by kernel_rfl) (by kernel_rfl) (by kernel_rfl) (by kernel_rfl) (by kernel_rfl)
def S99 : S :=
(.seq (.reg [.s 2 (.mv (.c (.int .i64 0)))] [0])
(.seq (.regD [(0, .s 3 (.mv (.t 0)), 0),
(1, .s 4 (.nck (.t 3)), 1),
(2, .s 5 (.fad 0 (.t 4)), 3),
(3, .s 6 (.ld 1 false (.t 5)), 7),
(4, .s 7 (.mv (.t 0)), 0),
(5, .s 8 (.nck (.t 7)), 16),
(6, .s 9 (.fad 1 (.t 8)), 48),
(7, .s 10 (.ld 1 false (.t 9)), 112),
(8, .s 11 (.len 0 (.t 10)), 240),
(9, .s 12 (.bin .sub .base (.t 6) (.t 11)), 511),
(10, .s 2 (.mv (.t 12)), 1023)] [2])
.ret))
theorem ok99 : FnOk Go.Proofs.Tryz.prog 99 ⟨13, [.t 2], S99⟩ :=
  FnOk.of [[0],[2]] Go.Proofs.Tryz.func99 (by kernel_rfl) (by kernel_rfl) (by kernel_rfl) (by kernel_rfl) (by kernel_rfl) (by kernel_rfl)
def S100 : S :=
(.seq (.reg [.s 2 (.new [(.int .i64 0),(.str []),(.str []),(.int .i64 0)] 45)] [2,0])
(.seq (.reg [.s 4 (.mv (.t 0)),
.s 5 (.call 99 [(.t 4)]),
.s 3 (.mv (.t 5))] [2,3,0])
(.seq (.seq (.reg [.s 6 (.mv (.t 0)),
.s 7 (.call 146 [(.t 6),(.c (.str [91]))])] [2,3,0,7])
(.cond (.t 7)
(.seq (.reg [.s 8 (.mv (.t 0)),
.s 9 (.mv (.t 3)),
.s 10 (.call 147 [(.t 8),(.t 9)]),
.n (.st 4 (.t 2) (.t 10))] [2])
.ret)
.skip))
(.seq (.seq (.reg [.s 11 (.mv (.t 3)),
.s 12 (.bin .gtr .base (.t 11) (.c (.int .i64 0)))] [2,3,0,12])
(.cond (.t 12)
(.reg [.s 13 (.mv (.t 0)),
.s 14 (.call 148 [(.t 13),(.c (.str [46]))])] [2,3,0])
.skip))
(.seq (.block 0 (.seq (.reg [.s 16 (.mv (.t 0)),
.s 17 (.call 146 [(.t 16),(.c (.str [42,42]))]),
.s 15 (.mv (.t 17))] [2,3,0,15])
(.cond (.t 15)
(.seq (.reg [.s 18 (.bld [(.int .i64 0),(.str []),(.str []),(.int .i64 0)] [(0,1,(.c (.int .i64 3)))]),
.n (.st 4 (.t 2) (.t 18))] [2])
.ret)
(.seq (.reg [.s 20 (.mv (.t 0)),
.s 21 (.call 146 [(.t 20),(.c (.str [42]))]),
.s 19 (.mv (.t 21))] [2,3,0,19])
(.cond (.t 19)
(.seq (.reg [.s 22 (.bld [(.int .i64 0),(.str []),(.str []),(.int .i64 0)] [(0,1,(.c (.int .i64 2)))]),
.n (.st 4 (.t 2) (.t 22))] [2])
.ret)
.skip)))))
(.seq (.reg [.s 23 (.mv (.t 0)),
.s 24 (.mv (.t 3)),
.s 25 (.call 149 [(.t 23),(.t 24)]),
.s 26 (.bld [(.int .i64 0),(.str []),(.str []),(.int .i64 0)] [(0,1,(.c (.int .i64 1))),(1,1,(.t 25))]),
.n (.st 4 (.t 2) (.t 26))] [2])
.ret))))))
theorem ok100 : FnOk Go.Proofs.Tryz.prog 100 ⟨27, [.c 2 4 true], S100⟩ :=
  FnOk.of [[2,0],[2,3,0],[2,3,0,7],[2],[2,3,0,12],[2,3,0],[2,3,0,15],[2],[2,3,0,19],[2],[2]] Go.Proofs.Tryz.func100 (by kernel_rfl) (by kernel_rfl) (by kernel_rfl) (by kernel_rfl) (by kernel_rfl) (by kernel_rfl)
def S101 : S :=
(.seq (.reg [.s 2 (.new [(.int .i64 0),(.str []),.nils] 68)] [2,0])
(.seq (.reg [.s 3 (.mv (.t 0)),
.s 4 (.bld [(.int .i64 0),(.str []),.nils] [(0,1,(.c (.int .i64 4))),(1,1,(.t 3))]),
.n (.st 3 (.t 2) (.t 4))] [2])
.ret))
theorem ok101 : FnOk Go.Proofs.Tryz.prog 101 ⟨5, [.c 2 3 true], S101⟩ :=
  FnOk.of [[2,0],[2]] Go.Proofs.Tryz.func101 (by kernel_rfl) (by kernel_rfl) (by kernel_rfl) (by kernel_rfl) (by kernel_rfl) (by kernel_rfl)
def S102 : S :=
(.seq (.reg [.s 4 (.mv (.c (.bool false)))] [1,0])
(.seq (.reg [.s 5 (.mv (.t 0)),
.s 6 (.mv (.t 1)),
.s 7 (.call 150 [(.t 5),(.t 6)]),
.s 8 (.bin .geq .base (.t 7) (.c (.int .i64 0))),
.s 4 (.mv (.t 8))] [4])
.ret))
theorem ok102 : FnOk Go.Proofs.Tryz.prog 102 ⟨9, [.t 4], S102⟩ :=
  FnOk.of [[1,0],[4]] Go.Proofs.Tryz.func102 (by kernel_rfl) (by kernel_rfl) (by kernel_rfl) (by kernel_rfl) (by kernel_rfl) (by kernel_rfl)
def S103 : S :=
(.seq (.reg [.s 1 (.box 4 45 (.t 0)),
.s 2 (.mv (.c (.bool false)))] [1])
(.seq (.reg [.s 3 (.ld 4 true (.t 1)),
.s 4 (.call 104 [(.t 3)]),
.s 5 (.un .not (.t 4)),
.s 2 (.mv (.t 5))] [2])
.ret))
theorem ok103 : FnOk Go.Proofs.Tryz.prog 103 ⟨6, [.t 2], S103⟩ :=
  FnOk.of [[1],[2]] Go.Proofs.Tryz.func103 (by kernel_rfl) (by kernel_rfl) (by kernel_rfl) (by kernel_rfl) (by kernel_rfl) (by kernel_rfl)
def S104 : S :=
(.seq (.reg [.s 1 (.box 4 45 (.t 0)),
.s 2 (.mv (.c (.bool false)))] [1])
(.seq (.reg [.s 8 (.fad 0 (.t 1)),
.s 9 (.ld 1 false (.t 8)),
.s 10 (.call 151 [(.t 9)]),
.s 7 (.mv (.t 10)),
.s 11 (.ext (.t 7) 0),
.s 12 (.ext (.t 7) 1),
.s 13 (.ext (.t 7) 2),
.s 14 (.ext (.t 7) 3),
.s 3 (.mv (.t 11)),
.s 4 (.mv (.t 12)),
.s 5 (.mv (.t 13)),
.s 6 (.mv (.t 14))] [1,5,4,3,6])
(.seq (.reg [.s 15 (.mv (.t 6)),
.s 16 (.mv (.t 15)),
.y 17 (.mv (.t 3)) 16,
.y 18 (.mv (.t 17)) 16,
.z 19 (.fad 1 (.t 1)) 18,
.z 20 (.ld 1 false (.t 19)) 18,
.z 21 (.bin .eql .base (.t 20) (.c (.str []))) 18,
.y 22 (.pick (.t 18) (.c (.bool true)) (.t 21)) 16,
.s 23 (.pick (.t 16) (.t 22) (.c (.bool false))),
.s 24 (.mv (.t 23)),
.y 25 (.mv (.t 4)) 24,
.y 26 (.mv (.t 25)) 24,
.z 27 (.fad 2 (.t 1)) 26,
.z 28 (.ld 1 false (.t 27)) 26,
.z 29 (.bin .eql .base (.t 28) (.c (.str []))) 26,
.y 30 (.pick (.t 26) (.c (.bool true)) (.t 29)) 24,
.s 31 (.pick (.t 24) (.t 30) (.c (.bool false))),
.s 32 (.mv (.t 31)),
.y 33 (.mv (.t 5)) 32,
.y 34 (.mv (.t 33)) 32,
.z 35 (.fad 3 (.t 1)) 34,
.z 36 (.ld 1 false (.t 35)) 34,
.z 37 (.bin .eql .base (.t 36) (.c (.int .i64 0))) 34,
.y 38 (.pick (.t 34) (.c (.bool true)) (.t 37)) 32,
.s 39 (.pick (.t 32) (.t 38) (.c (.bool false))),
.s 2 (.mv (.t 39))] [2])
.ret)))
theorem ok104 : FnOk Go.Proofs.Tryz.prog 104 ⟨40, [.t 2], S104⟩ :=
  FnOk.of [[1],[1,5,4,3,6],[2]] Go.Proofs.Tryz.func104 (by kernel_rfl) (by kernel_rfl) (by kernel_rfl) (by kernel_rfl) (by kernel_rfl) (by kernel_rfl)
def S105 : S :=
(.seq (.reg [.s 1 (.box 4 45 (.t 0)),
.s 2 (.mv (.c (.bool false)))] [1])
(.seq (.reg [.s 3 (.fad 1 (.t 1)),
.s 4 (.ld 1 false (.t 3)),
.s 5 (.len 0 (.t 4)),
.s 6 (.bin .gtr .base (.t 5) (.c (.int .i64 256))),
.s 7 (.mv (.t 6)),
.z 8 (.fad 2 (.t 1)) 7,
.z 9 (.ld 1 false (.t 8)) 7,
.z 10 (.len 0 (.t 9)) 7,
.z 11 (.bin .gtr .base (.t 10) (.c (.int .i64 256))) 7,
.s 12 (.pick (.t 7) (.c (.bool true)) (.t 11)),
.s 13 (.mv (.t 12)),
.z 14 (.fad 3 (.t 1)) 13,
.z 15 (.ld 1 false (.t 14)) 13,
.z 16 (.bin .lss .base (.t 15) (.c (.int .i64 0))) 13,
.s 17 (.pick (.t 13) (.c (.bool true)) (.t 16)),
.s 18 (.mv (.t 17)),
.z 19 (.fad 3 (.t 1)) 18,
.z 20 (.ld 1 false (.t 19)) 18,
.z 21 (.bin .gtr .base (.t 20) (.c (.int .i64 999999))) 18,
.s 22 (.pick (.t 18) (.c (.bool true)) (.t 21)),
.s 2 (.mv (.t 22))] [2])
.ret))
theorem ok105 : FnOk Go.Proofs.Tryz.prog 105 ⟨23, [.t 2], S105⟩ :=
  FnOk.of [[1],[2]] Go.Proofs.Tryz.func105 (by kernel_rfl) (by kernel_rfl) (by kernel_rfl) (by kernel_rfl) (by kernel_rfl) (by kernel_rfl)
def S106 : S :=
(.seq (.reg [.s 1 (.box 4 45 (.t 0)),
.s 2 (.mv (.c (.str []))),
.s 3 (.mv (.c (.int .i64 0)))] [1])
(.seq (.seq (.reg [.s 7 (.fad 0 (.t 1)),
.s 8 (.ld 1 false (.t 7))] [1,8])
(.block 0 (.seq (.reg [.s 10 (.bin .eql .base (.t 8) (.c (.int .i64 2))),
.s 9 (.mv (.t 10))] [1,8,9])
(.cond (.t 9)
(.seq (.reg [.s 2 (.mv (.c (.str [42]))),
.s 3 (.mv (.c (.int .i64 0)))] [2,3])
.ret)
(.seq (.reg [.s 12 (.bin .eql .base (.t 8) (.c (.int .i64 3))),
.s 11 (.mv (.t 12))] [1,8,11])
(.cond (.t 11)
(.seq (.reg [.s 2 (.mv (.c (.str [42,42]))),
.s 3 (.mv (.c (.int .i64 0)))] [2,3])
.ret)
(.seq (.reg [.s 14 (.bin .eql .base (.t 8) (.c (.int .i64 5))),
.s 13 (.mv (.t 14))] [1,8,13])
(.cond (.t 13)
(.seq (.reg [.s 2 (.mv (.c (.str [91,42,93]))),
.s 3 (.mv (.c (.int .i64 0)))] [2,3])
.ret)
(.seq (.reg [.s 16 (.bin .eql .base (.t 8) (.c (.int .i64 4))),
.s 15 (.mv (.t 16))] [1,8,15])
(.cond (.t 15)
(.seq (.reg [.s 17 (.fad 3 (.t 1)),
.s 18 (.ld 1 false (.t 17)),
.s 19 (.call 116 [(.t 18)]),
.s 20 (.bin .add .base (.c (.str [91])) (.t 19)),
.s 21 (.bin .add .base (.t 20) (.c (.str [93]))),
.s 2 (.mv (.t 21)),
.s 3 (.mv (.c (.int .i64 0)))] [2,3])
.ret)
(.seq (.reg [.s 23 (.bin .eql .base (.t 8) (.c (.int .i64 1))),
.s 22 (.mv (.t 23))] [1,22])
(.cond (.t 22)
(.seq (.reg [.s 24 (.fad 1 (.t 1)),
.s 25 (.ld 1 false (.t 24)),
.s 26 (.call 152 [(.t 25),(.c (.bool false))]),
.s 27 (.ext (.t 26) 0),
.s 28 (.ext (.t 26) 1),
.s 2 (.mv (.t 27)),
.s 3 (.mv (.t 28))] [2,3])
.ret)
.skip))))))))))))
(.seq (.reg [.s 30 (.fad 1 (.t 1)),
.s 31 (.ld 1 false (.t 30)),
.s 32 (.call 152 [(.t 31),(.c (.bool true))]),
.s 29 (.mv (.t 32)),
.s 33 (.ext (.t 29) 0),
.s 34 (.ext (.t 29) 1),
.s 4 (.mv (.t 33)),
.s 5 (.mv (.t 34))] [5,4,1])
(.seq (.seq (.reg [.s 35 (.mv (.t 5)),
.s 36 (.bin .neq .base (.t 35) (.c (.int .i64 0)))] [5,4,1,36])
(.cond (.t 36)
(.seq (.reg [.s 37 (.mv (.t 5)),
.s 2 (.mv (.c (.str []))),
.s 3 (.mv (.t 37))] [2,3])
.ret)
.skip))
(.seq (.reg [.s 39 (.fad 2 (.t 1)),
.s 40 (.ld 1 false (.t 39)),
.s 41 (.call 152 [(.t 40),(.c (.bool false))]),
.s 38 (.mv (.t 41)),
.s 42 (.ext (.t 38) 0),
.s 43 (.ext (.t 38) 1),
.s 6 (.mv (.t 42)),
.s 5 (.mv (.t 43))] [5,6,4])
(.seq (.reg [.s 44 (.mv (.t 4)),
.s 45 (.bin .add .base (.c (.str [91])) (.t 44)),
.s 46 (.bin .add .base (.t 45) (.c (.str [61]))),
.s 47 (.mv (.t 6)),
.s 48 (.bin .add .base (.t 46) (.t 47)),
.s 49 (.bin .add .base (.t 48) (.c (.str [93]))),
.s 50 (.mv (.t 5)),
.s 2 (.mv (.t 49)),
.s 3 (.mv (.t 50))] [2,3])
.ret))))))
theorem ok106 : FnOk Go.Proofs.Tryz.prog 106 ⟨51, [.t 2,.t 3], S106⟩ :=
  FnOk.of [[1],[1,8],[1,8,9],[2,3],[1,8,11],[2,3],[1,8,13],[2,3],[1,8,15],[2,3],[1,22],[2,3],[5,4,1],[5,4,1,36],[2,3],[5,6,4],[2,3]] Go.Proofs.Tryz.func106 (by kernel_rfl) (by kernel_rfl) (by kernel_rfl) (by kernel_rfl) (by kernel_rfl) (by kernel_rfl)
def S107 : S :=
(.seq (.reg [.s 4 (.mv (.c .nili))] [1,0])
(.seq (.reg [.s 5 (.mv (.t 0)),
.s 6 (.call 153 [(.t 5)])] [1,0])
(.seq (.reg [.s 7 (.mv (.t 0)),
.s 8 (.mv (.t 0)),
.s 9 (.nck (.t 8)),
.s 10 (.fad 1 (.t 9)),
.s 11 (.ld 1 false (.t 10)),
.s 12 (.mv (.t 1)),
.s 13 (.bsl 1 5 [(.int .u8 0)] 1 [(0,(.t 12))]),
.s 14 (.ap 1 1 5 (.t 11) (.t 13)),
.s 15 (.nck (.t 7)),
.s 16 (.fad 1 (.t 15)),
.n (.st 1 (.t 16) (.t 14))] [])
(.seq (.reg [.s 4 (.mv (.c .nili))] [4])
.ret))))
theorem ok107 : FnOk Go.Proofs.Tryz.prog 107 ⟨17, [.t 4], S107⟩ :=
  FnOk.of [[1,0],[1,0],[],[4]] Go.Proofs.Tryz.func107 (by kernel_rfl) (by kernel_rfl) (by kernel_rfl) (by kernel_rfl) (by kernel_rfl) (by kernel_rfl)
def S108 : S :=
(.seq (.reg [.s 4 (.mv (.c (.int .i64 0))),
.s 5 (.mv (.c .nili))] [1,0])
(.seq (.reg [.s 6 (.mv (.t 0)),
.s 7 (.call 153 [(.t 6)])] [1,0])
(.seq (.reg [.s 8 (.mv (.t 0)),
.s 9 (.mv (.t 0)),
.s 10 (.nck (.t 9)),
.s 11 (.fad 1 (.t 10)),
.s 12 (.ld 1 false (.t 11)),
.s 13 (.mv (.t 1)),
.s 14 (.apS 1 5 (.t 12) (.t 13)),
.s 15 (.nck (.t 8)),
.s 16 (.fad 1 (.t 15)),
.n (.st 1 (.t 16) (.t 14))] [1])
(.seq (.reg [.s 17 (.mv (.t 1)),
.s 18 (.len 0 (.t 17)),
.s 4 (.mv (.t 18)),
.s 5 (.mv (.c .nili))] [4,5])
.ret))))
theorem ok108 : FnOk Go.Proofs.Tryz.prog 108 ⟨19, [.t 4,.t 5], S108⟩ :=
  FnOk.of [[1,0],[1,0],[1],[4,5]] Go.Proofs.Tryz.func108 (by kernel_rfl) (by kernel_rfl) (by kernel_rfl) (by kernel_rfl) (by kernel_rfl) (by kernel_rfl)
def S109 : S :=
(.seq (.reg [.s 2 (.mv (.c (.str [])))] [0])
(.seq (.regD [(0, .s 3 (.mv (.t 0)), 0),
(1, .s 4 (.nck (.t 3)), 1),
(2, .s 5 (.fad 1 (.t 4)), 3),
(3, .s 6 (.ld 1 false (.t 5)), 7),
(4, .s 7 (.sd (.t 6)), 15),
(5, .s 8 (.mv (.t 0)), 0),
(6, .s 9 (.nck (.t 8)), 32),
(7, .s 10 (.fad 1 (.t 9)), 96),
(8, .s 11 (.ld 1 false (.t 10)), 224),
(9, .s 12 (.len 1 (.t 11)), 480),
(10, .s 13 (.us 5 (.t 7) (.t 12)), 1023),
(11, .s 2 (.mv (.t 13)), 2047)] [2])
.ret))
theorem ok109 : FnOk Go.Proofs.Tryz.prog 109 ⟨14, [.t 2], S109⟩ :=
  FnOk.of [[0],[2]] Go.Proofs.Tryz.func109 (by kernel_rfl) (by kernel_rfl) (by kernel_rfl) (by kernel_rfl) (by kernel_rfl) (by kernel_rfl)
def S110 : S :=
(.seq (.reg [.s 4 (.mv (.c (.int .u64 0)))] [1,0])
(.seq (.seq (.reg [.s 7 (.mv (.t 0)),
.s 8 (.nck (.t 7)),
.s 9 (.fad 2 (.t 8)),
.s 10 (.ld 1 false (.t 9)),
.s 11 (.len 1 (.t 10)),
.s 12 (.mv (.c (.int .i64 0)))] [12,1,10,11])
(.block 0 (.loop (.seq (.reg [.s 13 (.bin .lss .base (.t 12) (.t 11))] [10,11,12,1,13])
(.seq (.cond (.t 13)
.skip
(.exit 0))
(.seq (.block 1 (.seq (.reg [.s 14 (.mv (.t 12)),
.s 15 (.iad 4 (.t 10) (.t 12)),
.s 16 (.ld 4 true (.t 15)),
.s 6 (.new [(.int .i64 0),(.str []),(.str []),(.int .i64 0)] 45),
.s 5 (.mv (.t 14)),
.n (.st 4 (.t 6) (.t 16))] [10,11,12,5,1,6])
(.seq (.reg [.s 17 (.mv (.t 1)),
.s 18 (.mv (.t 5)),
.s 19 (.bin .shr .base (.t 17) (.t 18)),
.s 20 (.bin .and .base (.t 19) (.c (.int .u64 1))),
.s 21 (.bin .eql .base (.t 20) (.c (.int .u64 1))),
.s 22 (.mv (.t 21)),
.y 23 (.fad 0 (.t 6)) 22,
.y 24 (.ld 1 false (.t 23)) 22,
.y 25 (.bin .eql .base (.t 24) (.c (.int .i64 3))) 22,
.s 26 (.pick (.t 22) (.t 25) (.c (.bool false)))] [10,11,12,5,1,26])
(.cond (.t 26)
(.reg [.s 27 (.mv (.t 1)),
.s 28 (.mv (.t 5)),
.s 29 (.bin .add .base (.t 28) (.c (.int .i64 1))),
.s 30 (.bin .shl .base (.c (.int .u64 1)) (.t 29)),
.s 31 (.bin .or .base (.t 27) (.t 30)),
.s 1 (.mv (.t 31))] [1,10,11,12])
.skip))))
(.reg [.s 32 (.bin .add .base (.t 12) (.c (.int .i64 1))),
.s 12 (.mv (.t 32))] [12,1,10,11])))))))
(.seq (.reg [.s 33 (.mv (.t 1)),
.s 4 (.mv (.t 33))] [4])
.ret)))
theorem ok110 : FnOk Go.Proofs.Tryz.prog 110 ⟨34, [.t 4], S110⟩ :=
  FnOk.of [[1,0],[12,1,10,11],[10,11,12,1,13],[10,11,12,5,1,6],[10,11,12,5,1,26],[1,10,11,12],[12,1,10,11],[4]] Go.Proofs.Tryz.func110 (by kernel_rfl) (by kernel_rfl) (by kernel_rfl) (by kernel_rfl) (by kernel_rfl) (by kernel_rfl)
def S111 : S :=
(.seq (.reg [.s 5 (.box 4 45 (.t 1)),
.s 6 (.box 3 85 (.t 2)),
.s 8 (.mv (.c (.bool false)))] [5,6,0,3])
(.seq (.seq (.reg [.s 11 (.fad 2 (.t 6)),
.s 12 (.ld 1 false (.t 11)),
.s 13 (.fad 0 (.t 5)),
.s 14 (.ld 1 false (.t 13)),
.s 15 (.bin .geq .base (.t 14) (.c (.int .i64 4))),
.s 16 (.bin .neq .bool (.t 12) (.t 15))] [5,6,0,3,16])
(.cond (.t 16)
(.seq (.reg [.s 8 (.mv (.c (.bool false)))] [8])
.ret)
.skip))
(.seq (.seq (.reg [.s 17 (.fad 0 (.t 5)),
.s 18 (.ld 1 false (.t 17))] [5,6,0,3,18])
(.block 0 (.seq (.reg [.s 20 (.bin .eql .base (.t 18) (.c (.int .i64 1))),
.s 19 (.mv (.t 20))] [5,6,0,3,18,19])
(.cond (.t 19)
(.seq (.reg [.s 21 (.fad 0 (.t 6)),
.s 22 (.ld 1 false (.t 21)),
.s 23 (.fad 1 (.t 5)),
.s 24 (.ld 1 false (.t 23)),
.s 25 (.bin .eql .base (.t 22) (.t 24)),
.s 8 (.mv (.t 25))] [8])
.ret)
(.seq (.reg [.s 27 (.bin .eql .base (.t 18) (.c (.int .i64 4))),
.s 26 (.mv (.t 27))] [5,6,0,3,18,26])
(.cond (.t 26)
(.seq (.reg [.s 28 (.fad 1 (.t 6)),
.s 29 (.ld 1 false (.t 28)),
.s 30 (.fad 3 (.t 5)),
.s 31 (.ld 1 false (.t 30)),
.s 32 (.bin .eql .base (.t 29) (.t 31)),
.s 8 (.mv (.t 32))] [8])
.ret)
(.seq (.reg [.s 34 (.bin .eql .base (.t 18) (.c (.int .i64 6))),
.s 33 (.mv (.t 34))] [5,0,3,33])
(.cond (.t 33)
(.seq (.regD [(0, .s 36 (.mv (.t 0)), 0),
(1, .s 37 (.nck (.t 36)), 1),
(2, .s 38 (.fad 0 (.t 37)), 3),
(3, .s 39 (.ld 2 true (.t 38)), 7),
(4, .s 40 (.mv (.t 3)), 0),
(5, .s 41 (.fad 1 (.t 5)), 0),
(6, .s 42 (.ld 1 false (.t 41)), 32),
(7, .s 43 (.call 46 [(.t 39),(.t 40),(.c (.int .i64 4)),(.t 42)]), 127),
(8, .s 35 (.mv (.t 43)), 255),
(9, .s 44 (.ext (.t 35) 0), 511),
(10, .s 45 (.ext (.t 35) 1), 511),
(11, .s 9 (.mv (.t 44)), 1023),
(12, .s 10 (.mv (.t 45)), 4095)] [5,9,0,10])
(.seq (.regD [(0, .s 46 (.mv (.t 10)), 0),
(1, .s 47 (.mv (.t 46)), 1),
(2, .y 48 (.mv (.t 0)) 47, 3),
(3, .y 49 (.nck (.t 48)) 47, 7),
(4, .y 50 (.fad 0 (.t 49)) 47, 15),
(5, .y 51 (.fad 0 (.t 50)) 47, 31),
(6, .y 52 (.ld 1 false (.t 51)) 47, 63),
(7, .y 53 (.mv (.t 9)) 47, 3),
(8, .y 54 (.iad 3 (.t 52) (.t 53)) 47, 255),
(9, .y 55 (.fad 0 (.t 54)) 47, 511),
(10, .y 56 (.ld 1 false (.t 55)) 47, 1023),
(11, .y 57 (.bin .leq .base (.t 56) (.c (.int .i64 4))) 47, 2047),
(12, .s 58 (.pick (.t 47) (.t 57) (.c (.bool false))), 4095),
(13, .s 59 (.mv (.t 58)), 8191),
(14, .y 60 (.mv (.t 0)) 59, 16383),
(15, .y 61 (.nck (.t 60)) 59, 32767),
(16, .y 62 (.fad 0 (.t 61)) 59, 65535),
(17, .y 63 (.fad 0 (.t 62)) 59, 131071),
(18, .y 64 (.ld 1 false (.t 63)) 59, 262143),
(19, .y 65 (.mv (.t 9)) 59, 16383),
(20, .y 66 (.iad 3 (.t 64) (.t 65)) 59, 1048575),
(21, .y 67 (.fad 1 (.t 66)) 59, 2097151),
(22, .y 68 (.ld 1 false (.t 67)) 59, 4194303),
(23, .y 69 (.fad 2 (.t 5)) 59, 16383),
(24, .y 70 (.ld 1 false (.t 69)) 59, 8404991),
(25, .y 71 (.bin .eql .base (.t 68) (.t 70)) 59, 33554431),
(26, .s 72 (.pick (.t 59) (.t 71) (.c (.bool false))), 67108863),
(27, .s 8 (.mv (.t 72)), 134217727)] [8])
.ret))
.skip))))))))
(.seq (.reg [.s 8 (.mv (.c (.bool true)))] [8])
.ret))))
theorem ok111 : FnOk Go.Proofs.Tryz.prog 111 ⟨73, [.t 8], S111⟩ :=
  FnOk.of [[5,6,0,3],[5,6,0,3,16],[8],[5,6,0,3,18],[5,6,0,3,18,19],[8],[5,6,0,3,18,26],[8],[5,0,3,33],[5,9,0,10],[8],[8]] Go.Proofs.Tryz.func111 (by kernel_rfl) (by kernel_rfl) (by kernel_rfl) (by kernel_rfl) (by kernel_rfl) (by kernel_rfl)
def S115 : S :=
(.seq (.reg [.s 2 (.mv (.c .nils))] [0])
(.seq (.seq (.reg [.s 3 (.mv (.t 0)),
.s 4 (.bin .eql .slc (.t 3) (.c .nils))] [0,4])
(.cond (.t 4)
(.seq (.reg [.s 2 (.mv (.c .nils))] [2])
.ret)
.skip))
(.seq (.reg [.s 5 (.bsl 3 85 [(.str []),(.int .i64 0),(.bool false)] 0 []),
.s 6 (.mv (.t 0)),
.s 7 (.ap 3 32 85 (.t 5) (.t 6)),
.s 2 (.mv (.t 7))] [2])
.ret)))
theorem ok115 : FnOk Go.Proofs.Tryz.prog 115 ⟨8, [.t 2], S115⟩ :=
  FnOk.of [[0],[0,4],[2],[2]] Go.Proofs.Tryz.func115 (by kernel_rfl) (by kernel_rfl) (by kernel_rfl) (by kernel_rfl) (by kernel_rfl) (by kernel_rfl)
def S117 : S :=
(.seq (.reg [.s 2 (.mv (.c (.str []))),
.s 3 (.mv (.c (.int .i64 0)))] [0])
(.seq (.seq (.reg [.s 4 (.mv (.t 0)),
.s 5 (.bin .neq .base (.t 4) (.c (.str []))),
.s 6 (.mv (.t 5)),
.y 7 (.mv (.t 0)) 6,
.y 8 (.call 157 [(.t 7),(.c (.str [97,98,99,100,101,102,103,104,105,106,107,108,109,110,111,112,113,114,115,116,117,118,119,120,121,122,65,66,67,68,69,70,71,72,73,74,75,76,77,78,79,80,81,82,83,84,85,86,87,88,89,90,48,49,50,51,52,53,54,55,56,57,45,95]))]) 6,
.y 9 (.bin .eql .base (.t 8) (.c (.str []))) 6,
.s 10 (.pick (.t 6) (.t 9) (.c (.bool false)))] [0,10])
(.cond (.t 10)
(.seq (.reg [.s 11 (.mv (.t 0)),
.s 2 (.mv (.t 11)),
.s 3 (.mv (.c (.int .i64 0)))] [2,3])
.ret)
.skip))
(.seq (.reg [.s 12 (.mv (.t 0)),
.s 13 (.call 158 [(.t 12)]),
.s 14 (.ext (.t 13) 0),
.s 15 (.ext (.t 13) 1),
.s 2 (.mv (.t 14)),
.s 3 (.mv (.t 15))] [2,3])
.ret)))
theorem ok117 : FnOk Go.Proofs.Tryz.prog 117 ⟨16, [.t 2,.t 3], S117⟩ :=
  FnOk.of [[0],[0,10],[2,3],[2,3]] Go.Proofs.Tryz.func117 (by kernel_rfl) (by kernel_rfl) (by kernel_rfl) (by kernel_rfl) (by kernel_rfl) (by kernel_rfl)
def S118 : S :=
(.seq (.reg [.s 2 (.box 4 45 (.t 0)),
.s 3 (.box 4 45 (.t 1)),
.s 4 (.mv (.c (.bool false)))] [3,2])
(.seq (.block 0 (.seq (.reg [.s 6 (.fad 0 (.t 2)),
.s 7 (.ld 1 false (.t 6)),
.s 8 (.bin .eql .base (.t 7) (.c (.int .i64 3))),
.s 9 (.mv (.t 8)),
.z 10 (.fad 0 (.t 3)) 9,
.z 11 (.ld 1 false (.t 10)) 9,
.z 12 (.bin .eql .base (.t 11) (.c (.int .i64 3))) 9,
.s 13 (.pick (.t 9) (.c (.bool true)) (.t 12)),
.s 5 (.mv (.t 13))] [3,2,5])
(.cond (.t 5)
(.seq (.reg [.s 4 (.mv (.c (.bool true)))] [4])
.ret)
(.seq (.reg [.s 15 (.fad 0 (.t 2)),
.s 16 (.ld 1 false (.t 15)),
.s 17 (.bin .geq .base (.t 16) (.c (.int .i64 4))),
.s 18 (.fad 0 (.t 3)),
.s 19 (.ld 1 false (.t 18)),
.s 20 (.bin .geq .base (.t 19) (.c (.int .i64 4))),
.s 21 (.bin .neq .bool (.t 17) (.t 20)),
.s 14 (.mv (.t 21))] [3,2,14])
(.cond (.t 14)
(.seq (.reg [.s 4 (.mv (.c (.bool false)))] [4])
.ret)
(.seq (.reg [.s 23 (.fad 0 (.t 2)),
.s 24 (.ld 1 false (.t 23)),
.s 25 (.fad 0 (.t 3)),
.s 26 (.ld 1 false (.t 25)),
.s 27 (.bin .eql .base (.t 24) (.t 26)),
.s 28 (.mv (.t 27)),
.y 29 (.fad 0 (.t 2)) 28,
.y 30 (.ld 1 false (.t 29)) 28,
.y 31 (.bin .eql .base (.t 30) (.c (.int .i64 1))) 28,
.s 32 (.pick (.t 28) (.t 31) (.c (.bool false))),
.s 22 (.mv (.t 32))] [3,2,22])
(.cond (.t 22)
(.seq (.reg [.s 33 (.fad 1 (.t 2)),
.s 34 (.ld 1 false (.t 33)),
.s 35 (.fad 1 (.t 3)),
.s 36 (.ld 1 false (.t 35)),
.s 37 (.bin .eql .base (.t 34) (.t 36)),
.s 4 (.mv (.t 37))] [4])
.ret)
(.seq (.reg [.s 39 (.fad 0 (.t 2)),
.s 40 (.ld 1 false (.t 39)),
.s 41 (.fad 0 (.t 3)),
.s 42 (.ld 1 false (.t 41)),
.s 43 (.bin .eql .base (.t 40) (.t 42)),
.s 44 (.mv (.t 43)),
.y 45 (.fad 0 (.t 2)) 44,
.y 46 (.ld 1 false (.t 45)) 44,
.y 47 (.bin .eql .base (.t 46) (.c (.int .i64 4))) 44,
.s 48 (.pick (.t 44) (.t 47) (.c (.bool false))),
.s 38 (.mv (.t 48))] [3,2,38])
(.cond (.t 38)
(.seq (.reg [.s 49 (.fad 3 (.t 2)),
.s 50 (.ld 1 false (.t 49)),
.s 51 (.fad 3 (.t 3)),
.s 52 (.ld 1 false (.t 51)),
.s 53 (.bin .eql .base (.t 50) (.t 52)),
.s 4 (.mv (.t 53))] [4])
.ret)
.skip)))))))))
(.seq (.reg [.s 4 (.mv (.c (.bool true)))] [4])
.ret)))
theorem ok118 : FnOk Go.Proofs.Tryz.prog 118 ⟨54, [.t 4], S118⟩ :=
  FnOk.of [[3,2],[3,2,5],[4],[3,2,14],[4],[3,2,22],[4],[3,2,38],[4],[4]] Go.Proofs.Tryz.func118 (by kernel_rfl) (by kernel_rfl) (by kernel_rfl) (by kernel_rfl) (by kernel_rfl) (by kernel_rfl)
end Go.Eng.Tryz
namespace Go.Eng.Tryz
open Go.Eng
def S59 : S :=
(.seq (.reg [⟨(.some 3), (.box 2 113 (.t 1)), .none⟩,
⟨(.some 4), (.mv (.c (.bool .false))), .none⟩] [3,
0]) (.seq (.seq (.regD [(0, (⟨(.some 7), (.mv (.t 0)), .none⟩, 0)),
(1, (⟨(.some 8), (.nck (.t 7)), .none⟩, 1)),
(2, (⟨(.some 9), (.fad 2 (.t 8)), .none⟩, 3)),
(3, (⟨(.some 10), (.ld 1 .false (.t 9)), .none⟩, 7)),
(4, (⟨(.some 11), (.ld 2 .true (.t 3)), .none⟩, 0)),
(5, (⟨(.some 12), (.lk (.many [.int,
.int]) (.bool .false) .false (.t 10) (.t 11)), .none⟩, 31))] [3,
0,
12]) (.cond (.t 12) (.seq (.reg [⟨(.some 4), (.mv (.c (.bool .false))), .none⟩] [4]) .ret) .skip)) (.seq (.regD [(0, (⟨(.some 13), (.mv (.t 0)), .none⟩, 0)),
(1, (⟨(.some 14), (.nck (.t 13)), .none⟩, 1)),
(2, (⟨(.some 15), (.fad 2 (.t 14)), .none⟩, 3)),
(3, (⟨(.some 16), (.ld 1 .false (.t 15)), .none⟩, 7)),
(4, (⟨(.some 17), (.ld 2 .true (.t 3)), .none⟩, 0)),
(5, (⟨.none, (.up (.many [.int,
.int]) (.t 16) (.t 17) (.c (.bool .true))), .none⟩, 31))] [3,
0]) (.seq (.regD [(0, (⟨(.some 18), (.fad 0 (.t 3)), .none⟩, 0)),
(1, (⟨(.some 19), (.ld 1 .false (.t 18)), .none⟩, 1)),
(2, (⟨(.some 20), (.mv (.t 0)), .none⟩, 0)),
(3, (⟨(.some 21), (.nck (.t 20)), .none⟩, 4)),
(4, (⟨(.some 22), (.fad 0 (.t 21)), .none⟩, 12)),
(5, (⟨(.some 23), (.ld 1 .false (.t 22)), .none⟩, 28)),
(6, (⟨(.some 24), (.len 1 (.t 23)), .none⟩, 60)),
(7, (⟨(.some 25), (.bin .lss .base (.t 19) (.t 24)), .none⟩, 127)),
(8, (⟨(.some 26), (.fad 1 (.t 3)), .none⟩, 0)),
(9, (⟨(.some 27), (.ld 1 .false (.t 26)), .none⟩, 256)),
(10, (⟨(.some 28), (.mv (.t 0)), .none⟩, 0)),
(11, (⟨(.some 29), (.nck (.t 28)), .none⟩, 1024)),
(12, (⟨(.some 30), (.fad 1 (.t 29)), .none⟩, 3072)),
(13, (⟨(.some 31), (.ld 1 .false (.t 30)), .none⟩, 7168)),
(14, (⟨(.some 32), (.len 1 (.t 31)), .none⟩, 15360)),
(15, (⟨(.some 33), (.bin .lss .base (.t 27) (.t 32)), .none⟩, 32512)),
(16, (⟨(.some 5), (.mv (.t 25)), .none⟩, 255)),
(17, (⟨(.some 6), (.mv (.t 33)), .none⟩, 131071))] [3,
0,
6,
5]) (.seq (.block 0 (.seq (.reg [⟨(.some 35), (.mv (.t 5)), .none⟩,
⟨(.some 36), (.un .not (.t 35)), .none⟩,
⟨(.some 37), (.mv (.t 36)), .none⟩,
⟨(.some 38), (.mv (.t 6)), (.some (37, .true))⟩,
⟨(.some 39), (.un .not (.t 38)), (.some (37, .true))⟩,
⟨(.some 40), (.pick (.t 37) (.t 39) (.c (.bool .false))), .none⟩,
⟨(.some 34), (.mv (.t 40)), .none⟩] [3,
0,
6,
5,
34]) (.cond (.t 34) (.seq (.reg [⟨(.some 4), (.mv (.c (.bool .true))), .none⟩] [4]) .ret) (.seq (.regD [(0, (⟨(.some 42), (.mv (.t 5)), .none⟩, 0)),
(1, (⟨(.some 43), (.mv (.t 42)), .none⟩, 1)),
(2, (⟨(.some 44), (.mv (.t 0)), (.some (43, .true))⟩, 3)),
(3, (⟨(.some 45), (.nck (.t 44)), (.some (43, .true))⟩, 7)),
(4, (⟨(.some 46), (.fad 0 (.t 45)), (.some (43, .true))⟩, 15)),
(5, (⟨(.some 47), (.ld 1 .false (.t 46)), (.some (43, .true))⟩, 31)),
(6, (⟨(.some 48), (.fad 0 (.t 3)), (.some (43, .true))⟩, 3)),
(7, (⟨(.some 49), (.ld 1 .false (.t 48)), (.some (43, .true))⟩, 67)),
(8, (⟨(.some 50), (.iad 4 (.t 47) (.t 49)), (.some (43, .true))⟩, 255)),
(9, (⟨(.some 51), (.fad 0 (.t 50)), (.some (43, .true))⟩, 511)),
(10, (⟨(.some 52), (.ld 1 .false (.t 51)), (.some (43, .true))⟩, 1023)),
(11, (⟨(.some 53), (.bin .eql .base (.t 52) (.c (.int .i64 3))), (.some (43, .true))⟩, 2047)),
(12, (⟨(.some 54), (.pick (.t 43) (.t 53) (.c (.bool .false))), .none⟩, 4095)),
(13, (⟨(.some 41), (.mv (.t 54)), .none⟩, 8191))] [3,
0,
6,
5,
41]) (.cond (.t 41) (.seq (.reg [⟨(.some 55), (.mv (.t 0)), .none⟩,
⟨(.some 56), (.fad 0 (.t 3)), .none⟩,
⟨(.some 57), (.ld 1 .false (.t 56)), .none⟩,
⟨(.some 58), (.bin .add .base (.t 57) (.c (.int .i64 1))), .none⟩,
⟨(.some 59), (.fad 1 (.t 3)), .none⟩,
⟨(.some 60), (.ld 1 .false (.t 59)), .none⟩,
⟨(.some 61), (.bld [(.int .i64 0),
(.int .i64 0)] [(0, (1, (.t 58))),
(1, (1, (.t 60)))]), .none⟩,
⟨(.some 62), (.call 59 [(.t 55),
(.t 61)]), .none⟩,
⟨(.some 63), (.mv (.t 62)), .none⟩,
⟨(.some 64), (.mv (.t 6)), (.some (63, .false))⟩,
⟨(.some 65), (.mv (.t 64)), (.some (63, .false))⟩,
⟨(.some 66), (.mv (.t 0)), (.some (65, .true))⟩,
⟨(.some 67), (.fad 0 (.t 3)), (.some (65, .true))⟩,
⟨(.some 68), (.ld 1 .false (.t 67)), (.some (65, .true))⟩,
⟨(.some 69), (.fad 1 (.t 3)), (.some (65, .true))⟩,
⟨(.some 70), (.ld 1 .false (.t 69)), (.some (65, .true))⟩,
⟨(.some 71), (.bin .add .base (.t 70) (.c (.int .i64 1))), (.some (65, .true))⟩,
⟨(.some 72), (.bld [(.int .i64 0),
(.int .i64 0)] [(0, (1, (.t 68))),
(1, (1, (.t 71)))]), (.some (65, .true))⟩,
⟨(.some 73), (.call 59 [(.t 66),
(.t 72)]), (.some (65, .true))⟩,
⟨(.some 74), (.pick (.t 65) (.t 73) (.c (.bool .false))), (.some (63, .false))⟩,
⟨(.some 75), (.pick (.t 63) (.c (.bool .true)) (.t 74)), .none⟩,
⟨(.some 4), (.mv (.t 75)), .none⟩] [4]) .ret) (.seq (.regD [(0, (⟨(.some 77), (.mv (.t 6)), .none⟩, 0)),
(1, (⟨(.some 78), (.mv (.t 77)), .none⟩, 1)),
(2, (⟨(.some 79), (.mv (.t 0)), (.some (78, .true))⟩, 3)),
(3, (⟨(.some 80), (.nck (.t 79)), (.some (78, .true))⟩, 7)),
(4, (⟨(.some 81), (.fad 1 (.t 80)), (.some (78, .true))⟩, 15)),
(5, (⟨(.some 82), (.ld 1 .false (.t 81)), (.some (78, .true))⟩, 31)),
(6, (⟨(.some 83), (.fad 1 (.t 3)), (.some (78, .true))⟩, 3)),
(7, (⟨(.some 84), (.ld 1 .false (.t 83)), (.some (78, .true))⟩, 67)),
(8, (⟨(.some 85), (.iad 4 (.t 82) (.t 84)), (.some (78, .true))⟩, 255)),
(9, (⟨(.some 86), (.fad 0 (.t 85)), (.some (78, .true))⟩, 511)),
(10, (⟨(.some 87), (.ld 1 .false (.t 86)), (.some (78, .true))⟩, 1023)),
(11, (⟨(.some 88), (.bin .eql .base (.t 87) (.c (.int .i64 3))), (.some (78, .true))⟩, 2047)),
(12, (⟨(.some 89), (.pick (.t 78) (.t 88) (.c (.bool .false))), .none⟩, 4095)),
(13, (⟨(.some 76), (.mv (.t 89)), .none⟩, 8191))] [3,
0,
5,
6,
76]) (.cond (.t 76) (.seq (.reg [⟨(.some 90), (.mv (.t 0)), .none⟩,
⟨(.some 91), (.fad 0 (.t 3)), .none⟩,
⟨(.some 92), (.ld 1 .false (.t 91)), .none⟩,
⟨(.some 93), (.fad 1 (.t 3)), .none⟩,
⟨(.some 94), (.ld 1 .false (.t 93)), .none⟩,
⟨(.some 95), (.bin .add .base (.t 94) (.c (.int .i64 1))), .none⟩,
⟨(.some 96), (.bld [(.int .i64 0),
(.int .i64 0)] [(0, (1, (.t 92))),
(1, (1, (.t 95)))]), .none⟩,
⟨(.some 97), (.call 59 [(.t 90),
(.t 96)]), .none⟩,
⟨(.some 98), (.mv (.t 97)), .none⟩,
⟨(.some 99), (.mv (.t 5)), (.some (98, .false))⟩,
⟨(.some 100), (.mv (.t 99)), (.some (98, .false))⟩,
⟨(.some 101), (.mv (.t 0)), (.some (100, .true))⟩,
⟨(.some 102), (.fad 0 (.t 3)), (.some (100, .true))⟩,
⟨(.some 103), (.ld 1 .false (.t 102)), (.some (100, .true))⟩,
⟨(.some 104), (.bin .add .base (.t 103) (.c (.int .i64 1))), (.some (100, .true))⟩,
⟨(.some 105), (.fad 1 (.t 3)), (.some (100, .true))⟩,
⟨(.some 106), (.ld 1 .false (.t 105)), (.some (100, .true))⟩,
⟨(.some 107), (.bld [(.int .i64 0),
(.int .i64 0)] [(0, (1, (.t 104))),
(1, (1, (.t 106)))]), (.some (100, .true))⟩,
⟨(.some 108), (.call 59 [(.t 101),
(.t 107)]), (.some (100, .true))⟩,
⟨(.some 109), (.pick (.t 100) (.t 108) (.c (.bool .false))), (.some (98, .false))⟩,
⟨(.some 110), (.pick (.t 98) (.c (.bool .true)) (.t 109)), .none⟩,
⟨(.some 4), (.mv (.t 110)), .none⟩] [4]) .ret) .skip))))))) (.seq (.regD [(0, (⟨(.some 111), (.mv (.t 5)), .none⟩, 0)),
(1, (⟨(.some 112), (.mv (.t 111)), .none⟩, 1)),
(2, (⟨(.some 113), (.mv (.t 6)), (.some (112, .true))⟩, 3)),
(3, (⟨(.some 114), (.pick (.t 112) (.t 113) (.c (.bool .false))), .none⟩, 7)),
(4, (⟨(.some 115), (.mv (.t 114)), .none⟩, 15)),
(5, (⟨(.some 116), (.mv (.t 0)), (.some (115, .true))⟩, 31)),
(6, (⟨(.some 117), (.nck (.t 116)), (.some (115, .true))⟩, 63)),
(7, (⟨(.some 118), (.fad 0 (.t 117)), (.some (115, .true))⟩, 127)),
(8, (⟨(.some 119), (.ld 1 .false (.t 118)), (.some (115, .true))⟩, 255)),
(9, (⟨(.some 120), (.fad 0 (.t 3)), (.some (115, .true))⟩, 31)),
(10, (⟨(.some 121), (.ld 1 .false (.t 120)), (.some (115, .true))⟩, 543)),
(11, (⟨(.some 122), (.iad 4 (.t 119) (.t 121)), (.some (115, .true))⟩, 2047)),
(12, (⟨(.some 123), (.ld 4 .true (.t 122)), (.some (115, .true))⟩, 4095)),
(13, (⟨(.some 124), (.mv (.t 0)), (.some (115, .true))⟩, 31)),
(14, (⟨(.some 125), (.nck (.t 124)), (.some (115, .true))⟩, 8223)),
(15, (⟨(.some 126), (.fad 1 (.t 125)), (.some (115, .true))⟩, 24607)),
(16, (⟨(.some 127), (.ld 1 .false (.t 126)), (.some (115, .true))⟩, 57375)),
(17, (⟨(.some 128), (.fad 1 (.t 3)), (.some (115, .true))⟩, 31)),
(18, (⟨(.some 129), (.ld 1 .false (.t 128)), (.some (115, .true))⟩, 131103)),
(19, (⟨(.some 130), (.iad 4 (.t 127) (.t 129)), (.some (115, .true))⟩, 516127)),
(20, (⟨(.some 131), (.ld 4 .true (.t 130)), (.some (115, .true))⟩, 1040415)),
(21, (⟨(.some 132), (.call 118 [(.t 123),
(.t 131)]), (.some (115, .true))⟩, 2097151)),
(22, (⟨(.some 133), (.pick (.t 115) (.t 132) (.c (.bool .false))), .none⟩, 4194303)),
(23, (⟨(.some 134), (.mv (.t 133)), .none⟩, 8388607)),
(24, (⟨(.some 135), (.mv (.t 0)), (.some (134, .true))⟩, 16777215)),
(25, (⟨(.some 136), (.fad 0 (.t 3)), (.some (134, .true))⟩, 16777215)),
(26, (⟨(.some 137), (.ld 1 .false (.t 136)), (.some (134, .true))⟩, 50331647)),
(27, (⟨(.some 138), (.bin .add .base (.t 137) (.c (.int .i64 1))), (.some (134, .true))⟩, 117440511)),
(28, (⟨(.some 139), (.fad 1 (.t 3)), (.some (134, .true))⟩, 16777215)),
(29, (⟨(.some 140), (.ld 1 .false (.t 139)), (.some (134, .true))⟩, 285212671)),
(30, (⟨(.some 141), (.bin .add .base (.t 140) (.c (.int .i64 1))), (.some (134, .true))⟩, 822083583)),
(31, (⟨(.some 142), (.bld [(.int .i64 0),
(.int .i64 0)] [(0, (1, (.t 138))),
(1, (1, (.t 141)))]), (.some (134, .true))⟩, 2130706431)),
(32, (⟨(.some 143), (.call 59 [(.t 135),
(.t 142)]), (.some (134, .true))⟩, 4294967295)),
(33, (⟨(.some 144), (.pick (.t 134) (.t 143) (.c (.bool .false))), .none⟩, 8589934591)),
(34, (⟨(.some 4), (.mv (.t 144)), .none⟩, 17179869183))] [4]) .ret))))))
theorem ok59 : FnOk Go.Proofs.Tryz.prog 59 ⟨145, [.t 4], S59⟩ :=
  FnOk.of [[3,0],[3,0,12],[4],[3,0],[3,0,6,5],[3,0,6,5,34],[4],[3,0,6,5,41],[4],[3,0,5,6,76],[4],[4]] Go.Proofs.Tryz.func59 (by kernel_rfl) (by kernel_rfl) (by kernel_rfl) (by kernel_rfl) (by kernel_rfl) (by kernel_rfl)
end Go.Eng.Tryz
set_option maxRecDepth 20000
namespace Go.Eng.Tryz
open Go.Eng Go.Proofs
def U0 : List (TypeId × TypeId) := [(190, 190), (305, 190)]
def pow10L : List Int := [1, 10, 100, 1000, 10000, 100000, 1000000, 10000000, 100000000, 1000000000, 10000000000, 100000000000, 1000000000000, 10000000000000, 100000000000000, 1000000000000000, 10000000000000000, 100000000000000000, 1000000000000000000, 10000000000000000000]
def firstL : List Int := [240, 240, 240, 240, 240, 240, 240, 240, 240, 240, 240, 240, 240, 240, 240, 240, 240, 240, 240, 240, 240, 240, 240, 240, 240, 240, 240, 240, 240, 240, 240, 240, 240, 240, 240, 240, 240, 240, 240, 240, 240, 240, 240, 240, 240, 240, 240, 240, 240, 240, 240, 240, 240, 240, 240, 240, 240, 240, 240, 240, 240, 240, 240, 240, 240, 240, 240, 240, 240, 240, 240, 240, 240, 240, 240, 240, 240, 240, 240, 240, 240, 240, 240, 240, 240, 240, 240, 240, 240, 240, 240, 240, 240, 240, 240, 240, 240, 240, 240, 240, 240, 240, 240, 240, 240, 240, 240, 240, 240, 240, 240, 240, 240, 240, 240, 240, 240, 240, 240, 240, 240, 240, 240, 240, 240, 240, 240, 240, 241, 241, 241, 241, 241, 241, 241, 241, 241, 241, 241, 241, 241, 241, 241, 241, 241, 241, 241, 241, 241, 241, 241, 241, 241, 241, 241, 241, 241, 241, 241, 241, 241, 241, 241, 241, 241, 241, 241, 241, 241, 241, 241, 241, 241, 241, 241, 241, 241, 241, 241, 241, 241, 241, 241, 241, 241, 241, 241, 241, 241, 241, 241, 241, 241, 241, 2, 2, 2, 2, 2, 2, 2, 2, 2, 2, 2, 2, 2, 2, 2, 2, 2, 2, 2, 2, 2, 2, 2, 2, 2, 2, 2, 2, 2, 2, 19, 3, 3, 3, 3, 3, 3, 3, 3, 3, 3, 3, 3, 35, 3, 3, 52, 4, 4, 4, 68, 241, 241, 241, 241, 241, 241, 241, 241, 241, 241, 241]
def acceptL : List Int := [128, 191, 160, 191, 128, 159, 144, 191, 128, 143, 0, 0, 0, 0, 0, 0, 0, 0, 0, 0, 0, 0, 0, 0, 0, 0, 0, 0, 0, 0, 0, 0]
def bruijn32L : List Int := [0, 1, 28, 2, 29, 14, 24, 3, 30, 22, 20, 15, 25, 17, 4, 8, 31, 27, 13, 23, 21, 19, 16, 7, 26, 12, 18, 6, 11, 5, 10, 9]
def bruijn64L : List Int := [0, 1, 56, 2, 57, 49, 28, 3, 61, 58, 42, 50, 38, 29, 17, 4, 62, 47, 59, 36, 45, 43, 51, 22, 53, 39, 33, 30, 24, 18, 12, 5, 63, 55, 48, 27, 60, 41, 37, 16, 46, 35, 44, 21, 52, 32, 23, 11, 54, 26, 40, 15, 34, 20, 31, 10, 25, 14, 19, 9, 13, 8, 7, 6]
def G0 : Nat → AV
  | 0 => .fptr (pow10L.map (AV.int .u64))
  | 1 => .fptr [.iface 367 .any]
  | 2 => .fptr [.iface 367 .any]
  | 4 => .fptr (firstL.map (AV.int .u8))
  | 5 => .fptr (acceptL.map (AV.int .u8))
  | 6 => .fptr (bruijn32L.map (AV.int .u8))
  | 7 => .fptr (bruijn64L.map (AV.int .u8))
  | _ => .any
theorem hm0 : Tryz.prog.follows .mixedOrders = true := by kernel_rfl
theorem hU0 : ∀ t u, U0.contains (t, u) = true → size Go.Proofs.Tryz.prog t = some 2 ∧ ∀ k, liesAt Go.Proofs.Tryz.prog Go.Proofs.Tryz.prog.depth t (k + 1) 0 u 1 = true := by
  intro t u h
  simp only [U0, List.contains_cons, List.contains_nil, Bool.or_false, Bool.or_eq_true, beq_iff_eq, Prod.mk.injEq] at h
  have hc : Go.Proofs.Tryz.prog.cellsOf 190 = 2 := by kernel_rfl
  have hc2 : Go.Proofs.Tryz.prog.cellsOf 305 = 2 := by kernel_rfl
  obtain ⟨n, hn⟩ : ∃ n, Go.Proofs.Tryz.prog.depth = n + 2 := ⟨Go.Proofs.Tryz.prog.depth - 2, by
    have e : Go.Proofs.Tryz.prog.depth = 2 * (Go.Proofs.Tryz.prog.types.size + Made.depth) + 2 := rfl
    omega⟩
  have hsame : sameLayout Go.Proofs.Tryz.prog (n + 2) 190 190 = true := by simp [sameLayout]
  rcases h with ⟨rfl, rfl⟩ | ⟨rfl, rfl⟩
  · refine ⟨by kernel_rfl, fun k => ?_⟩
    rw [hn]
    simp [liesAt, hn, rowAt, hc, hsame]
  · refine ⟨by kernel_rfl, fun k => ?_⟩
    rw [hn]
    have hs : (match Go.Proofs.Tryz.prog.underlying 305 with | some (.struct fs) => fs.any fun f => Nat.beq f.offset 0 && Nat.beq f.type 190 | _ => false) = true := by kernel_rfl
    have hh : Go.Proofs.Tryz.prog.stoodInHeld 305 = false := by kernel_rfl
    split at hs
    · rename_i fs hfs
      obtain ⟨i, hi, h1⟩ := Array.any_eq_true.1 hs
      simp only [Bool.and_eq_true, Nat.beq_eq] at h1
      simp [liesAt, hn, rowAt, hc2, hfs, hh]
      refine .inr ⟨i, hi, ?_⟩
      simp [h1.1, h1.2, hc, hsame]
    · cases hs
theorem hG0 : ∀ g, (G0 g).cl (fun _ => false) = true := by
  intro g
  unfold G0
  split <;> first | rfl | exact clL_map _ _ fun _ => rfl
abbrev Spc := Spec Go.Proofs.Tryz.prog U0 G0
abbrev Pur := Pure Go.Proofs.Tryz.prog U0 G0
abbrev Puv := PureV Go.Proofs.Tryz.prog U0 G0
theorem sg {f : FuncId} {fi : FI} {Ψ : AV → H → Prop} (hf : FnOk Go.Proofs.Tryz.prog f fi) {xs : List AV} {h : H} (hlen : Nat.ble xs.length fi.N = true)
    (hW : Go Go.Proofs.Tryz.prog U0 G0 fi.rs Ψ fi.S (params xs 0) h []) : Spc f xs h Ψ := Spec_go hU0 hm0 hf hlen hW
theorem pv {f : FuncId} {fi : FI} {v : AV} (hf : FnOk Go.Proofs.Tryz.prog f fi) {xs : List AV} (hx : AV.clL (fun _ => false) xs = true) (hlen : Nat.ble xs.length fi.N = true)
    (hW : ∀ h, Go Go.Proofs.Tryz.prog U0 G0 fi.rs (fun v0 h1 => fz (fun _ => false) h1 8 v0 = some v) fi.S (params xs 0) h []) : Puv f xs v :=
  PureV.of 8 hx hG0 fun h => sg hf hlen (hW h)
theorem pq {f : FuncId} {fi : FI} {Q : AV → Prop} (hf : FnOk Go.Proofs.Tryz.prog f fi) {xs : List AV} (hx : AV.clL (fun _ => false) xs = true) (hlen : Nat.ble xs.length fi.N = true)
    (hW : ∀ h, Go Go.Proofs.Tryz.prog U0 G0 fi.rs (fun v0 h1 => ∃ v v1, fz (fun _ => false) h1 8 v0 = some v1 ∧ Le v1 v ∧ Q v) fi.S (params xs 0) h []) : Pur f xs Q :=
  Pure.of 8 hx hG0 fun h => sg hf hlen (hW h)
end Go.Eng.Tryz
