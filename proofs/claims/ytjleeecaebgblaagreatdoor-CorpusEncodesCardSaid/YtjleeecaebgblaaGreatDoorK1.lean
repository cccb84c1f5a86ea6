/- Functions of the program, resolved: more. -/
import Derived.Test.YtjleeecaebgblaaGreatDoorB1
import Derived.Test.YtjleeecaebgblaaGreatDoorA6
set_option linter.all false
set_option maxRecDepth 100000
set_option maxHeartbeats 4000000
namespace Go.Proofs.YtjleeecaebgblaaGreatDoor.AL.K
open Go Go.Proofs.YtjleeecaebgblaaGreatDoor.AL
noncomputable def c101 : AFn := ⟨(.seq (.region [q 0 4 (.move (.const (bS [])))])
 (.seq (.seq (.region [q 0 11 (mv 0), q 1 12 (.len .sl (T 11))])
 (.block 0 (.seq (.region [q 0 14 (.bin .eql .no (T 12) (I 0)), q 1 13 (mv 14)])
 (.cond (T 13) (.seq (.region [q 0 4 (.move (.const (bS [])))])
 .ret) (.seq (.region [q 0 16 (.bin .eql .no (T 12) (I 1)), q 1 15 (mv 16)])
 (.cond (T 15) (.seq (.region [q 0 17 (mv 0), q 1 18 (.iaddr (.sl 9 1) (T 17) (I 0)), q 2 19 (.load none (T 18)), q 3 4 (mv 19)])
 .ret) .skip))))))
 (.seq (.region [q 0 5 (.move (I 0))])
 (.seq (.seq (.region [q 0 20 (mv 1), q 1 21 (.len .str (T 20)), q 2 22 (.bin .gtr .no (T 21) (I 0))])
 (.cond (T 22) (.seq (.seq (.region [q 0 23 (mv 1), q 1 24 (.len .str (T 23)), q 2 25 (mv 0), q 3 26 (.len .sl (T 25)), q 4 27 (.bin .sub .no (T 26) (I 1)), q 5 28 (.bin .quo .no (I 9223372036854775807) (T 27)), q 6 29 (.bin .geq .no (T 24) (T 28))])
 (.cond (T 29) (.region [q 0 30 (.iface 9 (.const (bS [115, 116, 114, 105, 110, 103, 115, 58, 32, 74, 111, 105, 110, 32, 111, 117, 116, 112, 117, 116, 32, 108, 101, 110, 103, 116, 104, 32, 111, 118, 101, 114, 102, 108, 111, 119]))), ⟨1, none, none, (.panic (T 30)), [], []⟩]) .skip))
 (.region [q 0 31 (mv 5), q 1 32 (mv 1), q 2 33 (.len .str (T 32)), q 3 34 (mv 0), q 4 35 (.len .sl (T 34)), q 5 36 (.bin .sub .no (T 35) (I 1)), q 6 37 (.bin .mul .no (T 33) (T 36)), q 7 38 (.bin .add .no (T 31) (T 37)), q 8 5 (mv 38)])) .skip))
 (.seq (.seq (.region [q 0 39 (mv 0), q 1 40 (.len .sl (T 39)), q 2 41 (.move (I 0))])
 (.block 1 (.loop (.seq (.region [q 0 42 (.bin .lss .no (T 41) (T 40))])
 (.seq (.cond (T 42) .skip (.exit 1))
 (.seq (.block 2 (.seq (.region [q 0 43 (.iaddr (.sl 9 1) (T 39) (T 41)), q 1 44 (.load none (T 43)), q 2 7 (mv 44)])
 (.seq (.seq (.region [q 0 45 (mv 7), q 1 46 (.len .str (T 45)), q 2 47 (mv 5), q 3 48 (.bin .sub .no (I 9223372036854775807) (T 47)), q 4 49 (.bin .gtr .no (T 46) (T 48))])
 (.cond (T 49) (.region [q 0 50 (.iface 9 (.const (bS [115, 116, 114, 105, 110, 103, 115, 58, 32, 74, 111, 105, 110, 32, 111, 117, 116, 112, 117, 116, 32, 108, 101, 110, 103, 116, 104, 32, 111, 118, 101, 114, 102, 108, 111, 119]))), ⟨1, none, none, (.panic (T 50)), [], []⟩]) .skip))
 (.region [q 0 51 (mv 5), q 1 52 (mv 7), q 2 53 (.len .str (T 52)), q 3 54 (.bin .add .no (T 51) (T 53)), q 4 5 (mv 54)]))))
 (.region [q 0 55 (.bin .add .no (T 41) (I 1)), q 1 41 (mv 55)])))))))
 (.seq (.region [⟨0, (some 8), none, (.n (.alloc 285 [(.lit (.pointer none)), (.sl 0 [] .full)])), [], []⟩])
 (.seq (.region [q 0 56 (mv 5), ⟨1, (some 57), none, (.call 180 [(T 8), (T 56)]), [], []⟩])
 (.seq (.region [q 0 58 (mv 0), q 1 59 (.iaddr (.sl 9 1) (T 58) (I 0)), q 2 60 (.load none (T 59)), ⟨3, (some 61), none, (.call 181 [(T 8), (T 60)]), [], []⟩])
 (.seq (.seq (.region [q 0 62 (mv 0), q 1 63 (.slice (.sl 9 1) (T 62) (some (I 1)) none none), q 2 64 (.len .sl (T 63)), q 3 65 (.move (I 0))])
 (.block 3 (.loop (.seq (.region [q 0 66 (.bin .lss .no (T 65) (T 64))])
 (.seq (.cond (T 66) .skip (.exit 3))
 (.seq (.block 4 (.seq (.region [q 0 67 (.iaddr (.sl 9 1) (T 63) (T 65)), q 1 68 (.load none (T 67)), q 2 10 (mv 68)])
 (.seq (.region [q 0 69 (mv 1), ⟨1, (some 70), none, (.call 181 [(T 8), (T 69)]), [], []⟩])
 (.region [q 0 71 (mv 10), ⟨1, (some 72), none, (.call 181 [(T 8), (T 71)]), [], []⟩]))))
 (.region [q 0 73 (.bin .add .no (T 65) (I 1)), q 1 65 (mv 73)])))))))
 (.seq (.region [⟨0, (some 74), none, (.call 182 [(T 8)]), [], []⟩, q 1 4 (mv 74)])
 .ret)))))))))),
  75, [.tmp 4]⟩
noncomputable def c102 : AFn := ⟨(.seq (.region [q 0 2 (.move (.const (bS [])))])
 (.seq (.region [q 0 3 (mv 0), ⟨1, (some 4), none, (.call 183 [(T 3), (I 10)]), [], []⟩, q 2 2 (mv 4)])
 .ret)),
  5, [.tmp 2]⟩
noncomputable def c103 : AFn := ⟨(.seq (.region [⟨0, (some 1), none, (.n (.box 71 (T 0))), [], []⟩, ⟨1, (some 2), none, (.n (.alloc 4 [(.lit (.bool false))])), [], []⟩])
 (.seq (.region [⟨0, (some 3), none, (.n (.alloc 3 [(.lit (.int .i64 (.ofNat 0)))])), [], []⟩, ⟨1, none, none, (.e (.store 1 (T 3) (I 0))), [], []⟩])
 (.seq (.seq (.region [q 0 6 (.load (some 5) (T 1)), ⟨1, (some 7), none, (.call 184 [(T 6), (I 1)]), [], []⟩])
 (.block 0 (.rangeF 23 (T 7) [8, 9] (.seq (.region [q 0 4 (mv 8)])
 (.region [⟨0, (some 5), none, (.n (.alloc 71 [(.lit (bS [])), (.lit (.int .i64 (.ofNat 0))), (.sl 0 [] .full), (.sl 0 [] .full), (.sl 0 [] .full)])), [], []⟩, ⟨1, none, none, (.e (.store 5 (T 5) (T 9))), [], []⟩])) (.block 1 (.seq (.region [q 0 10 (.load none (T 3)), q 1 11 (.bin .add .no (T 10) (I 1)), ⟨2, none, none, (.e (.store 1 (T 3) (T 11))), [], []⟩])
 (.seq (.region [q 0 12 (.load none (T 3)), q 1 13 (.bin .gtr .no (T 12) (I 65536)), q 2 14 (mv 13), qg 3 15 14 false (mv 4), qg 4 16 14 false (.bin .gtr .no (T 15) (I 40)), q 5 17 (.pick (T 14) (.const (.bool true)) (T 16)), q 6 18 (mv 17), qg 7 19 18 false (.load (some 5) (T 5)), ⟨8, (some 20), (some (18, false)), (.call 185 [(T 19)]), [], []⟩, qg 9 21 18 false (.un .not (T 20)), q 10 22 (.pick (T 18) (.const (.bool true)) (T 21))])
 (.cond (T 22) (.seq (.region [⟨0, none, none, (.e (.store 1 (T 2) (.const (.bool false)))), [], []⟩])
 .ret) .skip)))))))
 (.seq (.region [⟨0, none, none, (.e (.store 1 (T 2) (.const (.bool true)))), [], []⟩])
 .ret)))),
  23, [.cell none 2]⟩
noncomputable def c105 : AFn := ⟨(.seq (.region [⟨0, (some 2), none, (.n (.box 71 (T 0))), [], []⟩, ⟨1, (some 3), none, (.n (.box 9 (T 1))), [], []⟩, q 2 4 (.move (.const .nilFunc))])
 (.seq (.region [q 0 5 (.func (.func 186) [] [(T 3), (T 2)]), q 1 4 (mv 5)])
 .ret)),
  6, [.tmp 4]⟩
noncomputable def c110 : AFn := ⟨(.seq (.region [q 0 6 (mv 1), q 1 7 (.un .not (T 6))])
 (.cond (T 7) (.draw [.one (qd 0 8 (mv 0) [0] []), .one (qd 1 9 (.nilc (T 8)) [8] []), .one (qd 2 10 (.faddr 5 (T 9)) [9] []), .one (qd 3 11 (.load none (T 10)) [10] []), .one (qd 4 12 (mv 0) [0] []), .one (qd 5 13 (.nilc (T 12)) [12] []), .one (qd 6 14 (.faddr 6 (T 13)) [13] []), .one (qd 7 15 (.load none (T 14)) [14] []), .one (qd 8 16 (mv 2) [2] []), .one (qd 9 17 (.build (.struct [(0, 1), (1, 1), (2, 1)]) [(.lit (.int .i64 (.ofNat 0))), (.lit (.int .i64 (.ofNat 0))), (.lit (.int .i64 (.ofNat 0)))] [(0, (T 11)), (1, (T 15)), (2, (T 16))]) [11, 15, 16] []), .one (qd 10 18 (.iface 98 (T 17)) [17] []), .one (⟨11, none, none, (.panic (T 18)), [18], []⟩)]) .skip)),
  19, []⟩
noncomputable def c111 : AFn := ⟨(.seq (.region [q 0 2 (.move (.const (.bool false)))])
 (.seq (.region [q 0 3 (.move (.func 188))])
 (.seq (.region [q 0 4 (mv 0), q 1 5 (.len .str (T 4)), q 2 6 (.bin .geq .no (T 5) (I 1)), q 3 7 (mv 0), q 4 8 (.len .str (T 7)), q 5 9 (.bin .leq .no (T 8) (I 32)), q 6 10 (.bslice 1 2 [(0, (T 6)), (1, (T 9))]), ⟨7, (some 11), none, (.call 191 [(T 10)]), [], []⟩, q 8 12 (mv 11), qg 9 13 12 true (mv 0), qg 10 14 12 true (.index .str none (T 13) (I 0)), ⟨11, (some 15), (some (12, true)), (.call 189 [(T 14)]), [], []⟩, q 12 16 (.pick (T 12) (T 15) (.const (.bool false))), q 13 17 (mv 16), qg 14 18 17 true (mv 0), qg 15 19 17 true (.conv (.tob 5) (T 18)), qg 16 20 17 true (mv 3), ⟨17, (some 21), (some (17, true)), (.call 192 [(T 19), (T 20)]), [], []⟩, qg 18 22 17 true (.un .not (T 21)), q 19 23 (.pick (T 17) (T 22) (.const (.bool false))), q 20 2 (mv 23)])
 .ret))),
  24, [.tmp 2]⟩
noncomputable def c112 : AFn := ⟨(.seq (.region [⟨0, (some 2), none, (.n (.box 164 (T 0))), [], []⟩, ⟨1, (some 3), none, (.n (.box 89 (T 1))), [], []⟩])
 (.seq (.draw [.one (qd 0 11 (.load none (T 2)) [2] []), .one (qd 1 12 (.load none (T 2)) [2] []), .one (qd 2 13 (.load (some 2) (T 3)) [3] []), .one (qd 3 14 (.nilc (T 11)) [11] []), .one (qd 4 15 (.faddr 7 (T 14)) [14] []), .one (⟨5, none, none, (.e (.store 2 (T 15) (T 13))), [15, 13], [1]⟩), .one (qd 6 16 (.nilc (T 12)) [12] []), .one (qd 7 17 (.faddr 6 (T 16)) [16] []), .one (⟨8, none, none, (.e (.store 1 (T 17) (.const (.int .i64 (.negSucc 0))))), [17], []⟩)])
 (.seq (.draw [.one (qd 0 18 (.load none (T 2)) [2] []), .one (qd 1 19 (.faddr 0 (T 3)) [3] []), .one (qd 2 20 (.load none (T 19)) [19] []), .one (⟨3, (some 21), none, (.call 111 [(T 20)]), [20], [0]⟩), .one (⟨4, (some 22), none, (.call 110 [(T 18), (T 21), (I 1)]), [18, 21], []⟩)])
 (.seq (.draw [.one (qd 0 24 (.load none (T 2)) [2] []), .one (qd 1 25 (.nilc (T 24)) [24] []), .one (qd 2 26 (.faddr 3 (T 25)) [25] []), .one (qd 3 27 (.load none (T 26)) [26] []), .one (qd 4 28 (.faddr 0 (T 3)) [3] []), .one (qd 5 29 (.load none (T 28)) [28] []), .one (qd 6 30 (.lookup .str (.lit (.int .i64 (.ofNat 0))) (T 27) (T 29) true) [27, 29] []), .one (qd 7 23 (mv 30) [30] []), .one (qd 8 31 (.extract (T 23) 0) [23] []), .one (qd 9 32 (.extract (T 23) 1) [23] []), .one (qd 10 4 (mv 31) [31] []), .one (qd 11 5 (mv 32) [32] [])])
 (.seq (.region [q 0 33 (.load none (T 2)), q 1 34 (mv 5), q 2 35 (.un .not (T 34)), ⟨3, (some 36), none, (.call 110 [(T 33), (T 35), (I 2)]), [], []⟩])
 (.seq (.region [q 0 37 (.load none (T 2)), q 1 38 (.faddr 1 (T 3)), q 2 39 (.load none (T 38)), q 3 40 (.len .sl (T 39)), q 4 41 (.bin .geq .no (T 40) (I 1)), q 5 42 (mv 41), qg 6 43 42 true (.faddr 1 (T 3)), qg 7 44 42 true (.load none (T 43)), qg 8 45 42 true (.len .sl (T 44)), qg 9 46 42 true (.bin .leq .no (T 45) (I 40)), q 10 47 (.pick (T 42) (T 46) (.const (.bool false))), ⟨11, (some 48), none, (.call 110 [(T 37), (T 47), (I 3)]), [], []⟩])
 (.seq (.region [⟨0, (some 6), none, (.n (.alloc 4 [(.lit (.bool false))])), [], []⟩, ⟨1, none, none, (.e (.store 1 (T 6) (.const (.bool true)))), [], []⟩])
 (.seq (.seq (.region [q 0 49 (.faddr 1 (T 3)), q 1 50 (.load none (T 49)), q 2 51 (.len .sl (T 50)), q 3 52 (.move (I 0))])
 (.block 0 (.loop (.seq (.region [q 0 53 (.bin .lss .no (T 52) (T 51))])
 (.seq (.cond (T 53) .skip (.exit 0))
 (.seq (.block 1 (.seq (.region [q 0 54 (mv 52), q 1 55 (.iaddr (.sl 86 15) (T 50) (T 52)), q 2 56 (.load (some 15) (T 55)), ⟨3, (some 8), none, (.n (.alloc 86 [(.lit (bS [])), (.lit (.int .i64 (.ofNat 0))), (.lit (.int .i64 (.ofNat 0))), (.lit (.bool false)), (.lit (.bool false)), (.lit (.int .i64 (.ofNat 0))), (.lit (.int .i64 (.ofNat 0))), (.lit (.int .i64 (.ofNat 0))), (.sl 0 [] .full), (.lit (bS [])), (.lit (bS [])), (.lit (bS [])), (.sl 0 [] .full), (.lit (.int .i64 (.ofNat 0))), (.lit (.int .i64 (.ofNat 0)))])), [], []⟩, q 4 7 (mv 54), ⟨5, none, none, (.e (.store 15 (T 8) (T 56))), [], []⟩])
 (.seq (.region [q 0 57 (.load none (T 2)), q 1 58 (mv 7), q 2 59 (.nilc (T 57)), q 3 60 (.faddr 6 (T 59)), ⟨4, none, none, (.e (.store 1 (T 60) (T 58))), [], []⟩])
 (.seq (.region [q 0 61 (.load none (T 2)), q 1 62 (.load (some 15) (T 8)), ⟨2, (some 63), none, (.call 193 [(T 61), (T 62)]), [], []⟩])
 (.region [q 0 64 (.load none (T 6)), q 1 65 (mv 64), qg 2 66 65 true (.faddr 4 (T 8)), qg 3 67 65 true (.load none (T 66)), qg 4 68 65 true (.un .not (T 67)), q 5 69 (.pick (T 65) (T 68) (.const (.bool false))), ⟨6, none, none, (.e (.store 1 (T 6) (T 69))), [], []⟩])))))
 (.region [q 0 70 (.bin .add .no (T 52) (I 1)), q 1 52 (mv 70)])))))))
 (.seq (.region [q 0 71 (.load none (T 2)), q 1 72 (.nilc (T 71)), q 2 73 (.faddr 6 (T 72)), ⟨3, none, none, (.e (.store 1 (T 73) (.const (.int .i64 (.negSucc 0))))), [], []⟩])
 (.seq (.region [⟨0, (some 9), none, (.n (.alloc 3 [(.lit (.int .i64 (.ofNat 0)))])), [], []⟩, ⟨1, none, none, (.e (.store 1 (T 9) (I 0))), [], []⟩])
 (.seq (.seq (.region [q 0 74 (.load (some 2) (T 3)), ⟨1, (some 75), none, (.call 194 [(T 74)]), [], []⟩])
 (.block 2 (.rangeF 117 (T 75) [76] (.region [q 0 10 (mv 76)]) (.block 3 (.seq (.draw [.one (qd 0 77 (.load none (T 9)) [9] []), .one (qd 1 78 (.load none (T 2)) [2] []), .one (qd 2 79 (.nilc (T 78)) [78] []), .one (qd 3 80 (.faddr 3 (T 79)) [79] []), .one (qd 4 81 (.load none (T 80)) [80] []), .one (qd 5 82 (mv 10) [10] []), .one (qd 6 83 (.lookup .str (.lit (.int .i64 (.ofNat 0))) (T 81) (T 82) false) [81, 82] []), .one (qd 7 84 (.max [(T 77), (T 83)]) [77, 83] []), .one (⟨8, none, none, (.e (.store 1 (T 9) (T 84))), [9, 84], []⟩)])
 (.region [q 0 85 (.load none (T 6)), q 1 86 (mv 85), qg 2 87 86 true (.load none (T 2)), qg 3 88 86 true (.nilc (T 87)), qg 4 89 86 true (.faddr 4 (T 88)), qg 5 90 86 true (.load none (T 89)), qg 6 91 86 true (mv 10), qg 7 92 86 true (.lookup .str (.lit (.bool false)) (T 90) (T 91) false), q 8 93 (.pick (T 86) (T 92) (.const (.bool false))), ⟨9, none, none, (.e (.store 1 (T 6) (T 93))), [], []⟩]))))))
 (.seq (.draw [.one (qd 0 94 (.load none (T 2)) [2] []), .one (qd 1 95 (.nilc (T 94)) [94] []), .one (qd 2 96 (.faddr 3 (T 95)) [95] []), .one (qd 3 97 (.load none (T 96)) [96] []), .one (qd 4 98 (.faddr 0 (T 3)) [3] []), .one (qd 5 99 (.load none (T 98)) [98] []), .one (qd 6 100 (.load none (T 2)) [2] []), .one (qd 7 101 (.nilc (T 100)) [100] []), .one (qd 8 102 (.faddr 4 (T 101)) [101] []), .one (qd 9 103 (.load none (T 102)) [102] []), .one (qd 10 104 (.faddr 0 (T 3)) [3] []), .one (qd 11 105 (.load none (T 104)) [104] []), .one (qd 12 106 (.load none (T 9)) [9] []), .one (qd 13 107 (.bin .add .no (T 106) (I 1)) [106] []), .one (qd 14 108 (.load none (T 6)) [6] []), .one (⟨15, (some 109), none, (.e (.mapEntry .str (.lit (.int .i64 (.ofNat 0))) (T 97) (T 99))), [97, 99], [14, 13, 12, 11, 10]⟩), .one (qd 16 110 (.extract (T 109) 1) [109] []), .one (⟨17, none, none, (.e (.entry (T 97) (T 110) (T 107))), [97, 110, 107], [14, 11, 10]⟩), .one (⟨18, (some 111), none, (.e (.mapEntry .str (.lit (.bool false)) (T 103) (T 105))), [103, 105], [14]⟩), .one (qd 19 112 (.extract (T 111) 1) [111] []), .one (⟨20, none, none, (.e (.entry (T 103) (T 112) (T 108))), [103, 112, 108], []⟩)])
 (.region [q 0 113 (.load none (T 2)), q 1 114 (.load none (T 9)), q 2 115 (.bin .lss .no (T 114) (I 16)), ⟨3, (some 116), none, (.call 110 [(T 113), (T 115), (I 10)]), [], []⟩]))))))))))))),
  117, []⟩
noncomputable def c113 : AFn := ⟨(.seq (.region [⟨0, (some 2), none, (.n (.box 86 (T 0))), [], []⟩, q 1 4 (.move (I 0))])
 (.seq (.region [q 0 5 (mv 1), q 1 6 (.faddr 2 (T 2)), q 2 7 (.load none (T 6)), q 3 8 (.bin .add .no (T 5) (T 7)), q 4 4 (mv 8)])
 .ret)),
  9, [.tmp 4]⟩
noncomputable def c116 : AFn := ⟨(.seq (.region [q 0 4 (.move (I 0)), q 1 5 (.move (.const (.bool false)))])
 (.seq (.region [q 0 7 (mv 0), q 1 8 (mv 1), ⟨2, (some 9), none, (.call 195 [(T 7), (T 8)]), [], []⟩, q 3 6 (mv 9)])
 (.seq (.region [q 0 10 (mv 6), q 1 11 (.max [(T 10), (I 0)]), q 2 12 (mv 6), q 3 13 (.bin .geq .no (T 12) (I 0)), q 4 4 (mv 11), q 5 5 (mv 13)])
 .ret))),
  14, [.tmp 4, .tmp 5]⟩
noncomputable def c117 : AFn := ⟨(.seq (.region [⟨0, (some 2), none, (.n (.box 86 (T 0))), [], []⟩, q 1 3 (.move (.const (.bool false)))])
 (.seq (.region [q 0 4 (.faddr 0 (T 2)), q 1 5 (.load none (T 4)), q 2 6 (.load none (T 1)), q 3 7 (.bin .eql .no (T 5) (T 6)), q 4 3 (mv 7)])
 .ret)),
  8, [.tmp 3]⟩
noncomputable def c118 : AFn := ⟨(.seq (.region [q 0 4 (.move (I 0))])
 (.seq (.seq (.region [q 0 6 (mv 0), q 1 7 (.len .sl (T 6)), q 2 8 (.move (I 0))])
 (.block 0 (.loop (.seq (.region [q 0 9 (.bin .lss .no (T 8) (T 7))])
 (.seq (.cond (T 9) .skip (.exit 0))
 (.seq (.block 1 (.seq (.region [q 0 10 (mv 8), q 1 5 (mv 10)])
 (.seq (.region [q 0 11 (mv 1), q 1 12 (mv 0), q 2 13 (mv 5), q 3 14 (.iaddr (.sl 23 1) (T 12) (T 13)), q 4 15 (.load none (T 14)), ⟨5, (some 16), none, (.callv (T 11) [(T 15)]), [], []⟩])
 (.cond (T 16) (.seq (.region [q 0 17 (mv 5), q 1 4 (mv 17)])
 .ret) .skip))))
 (.region [q 0 18 (.bin .add .no (T 8) (I 1)), q 1 8 (mv 18)])))))))
 (.seq (.region [q 0 4 (.move (.const (.int .i64 (.negSucc 0))))])
 .ret))),
  19, [.tmp 4]⟩
noncomputable def c119 : AFn := ⟨(.seq (.region [q 0 4 (.move (I 0))])
 (.seq (.seq (.region [q 0 6 (mv 0), q 1 7 (.len .sl (T 6)), q 2 8 (.move (I 0))])
 (.block 0 (.loop (.seq (.region [q 0 9 (.bin .lss .no (T 8) (T 7))])
 (.seq (.cond (T 9) .skip (.exit 0))
 (.seq (.block 1 (.seq (.region [q 0 10 (mv 8), q 1 5 (mv 10)])
 (.seq (.region [q 0 11 (mv 1), q 1 12 (mv 0), q 2 13 (mv 5), q 3 14 (.iaddr (.sl 89 2) (T 12) (T 13)), q 4 15 (.load (some 2) (T 14)), ⟨5, (some 16), none, (.callv (T 11) [(T 15)]), [], []⟩])
 (.cond (T 16) (.seq (.region [q 0 17 (mv 5), q 1 4 (mv 17)])
 .ret) .skip))))
 (.region [q 0 18 (.bin .add .no (T 8) (I 1)), q 1 8 (mv 18)])))))))
 (.seq (.region [q 0 4 (.move (.const (.int .i64 (.negSucc 0))))])
 .ret))),
  19, [.tmp 4]⟩
noncomputable def c121 : AFn := ⟨(.seq (.region [⟨0, (some 3), none, (.n (.box 86 (T 1))), [], []⟩, ⟨1, (some 4), none, (.n (.alloc 71 [(.lit (bS [])), (.lit (.int .i64 (.ofNat 0))), (.sl 0 [] .full), (.sl 0 [] .full), (.sl 0 [] .full)])), [], []⟩])
 (.seq (.region [q 0 5 (mv 0), q 1 6 (.load (some 15) (T 3)), ⟨2, (some 7), none, (.call 131 [(T 5), (T 6)]), [], []⟩, q 3 8 (.iaddr (.sl 3 1) (T 7) (I 0)), q 4 9 (.load none (T 8)), q 5 10 (.build (.struct [(0, 1), (1, 1), (2, 1), (3, 1), (4, 1)]) [(.lit (bS [])), (.lit (.int .i64 (.ofNat 0))), (.sl 0 [] .full), (.sl 0 [] .full), (.sl 0 [] .full)] [(1, (T 9))]), ⟨6, none, none, (.e (.store 5 (T 4) (T 10))), [], []⟩])
 .ret)),
  11, [.cell (some 5) 4]⟩
noncomputable def c127 : AFn := ⟨(.seq (.region [⟨0, (some 1), none, (.n (.box 86 (T 0))), [], []⟩, q 1 2 (.move (.const (.bool false)))])
 (.seq (.region [q 0 3 (.faddr 1 (T 1)), q 1 4 (.load none (T 3)), q 2 5 (.bin .neq .no (T 4) (I 2)), q 3 6 (mv 5), qg 4 7 6 true (.faddr 1 (T 1)), qg 5 8 6 true (.load none (T 7)), qg 6 9 6 true (.bin .neq .no (T 8) (I 10)), q 7 10 (.pick (T 6) (T 9) (.const (.bool false))), q 8 11 (mv 10), qg 9 12 11 true (.faddr 1 (T 1)), qg 10 13 11 true (.load none (T 12)), qg 11 14 11 true (.bin .neq .no (T 13) (I 11)), q 12 15 (.pick (T 11) (T 14) (.const (.bool false))), q 13 2 (mv 15)])
 .ret)),
  16, [.tmp 2]⟩
noncomputable def c128 : AFn := ⟨(.seq (.region [q 0 2 (mv 0), q 1 3 (.un .not (T 2))])
 (.cond (T 3) (.region [q 0 4 (.build (.struct []) [] []), q 1 5 (.iface 233 (T 4)), ⟨2, none, none, (.panic (T 5)), [], []⟩]) .skip)),
  6, []⟩
noncomputable def c129 : AFn := ⟨(.seq (.region [⟨0, (some 1), none, (.n (.box 71 (T 0))), [], []⟩, ⟨1, (some 2), none, (.n (.alloc 3 [(.lit (.int .i64 (.ofNat 0)))])), [], []⟩])
 (.seq (.seq (.region [q 0 3 (.load (some 5) (T 1)), ⟨1, (some 4), none, (.call 184 [(T 3), (I 1)]), [], []⟩])
 (.block 0 (.rangeF 10 (T 4) [5, 6] .skip (.block 1 (.region [q 0 7 (.load none (T 2)), q 1 8 (.bin .add .no (T 7) (I 1)), ⟨2, none, none, (.e (.store 1 (T 2) (T 8))), [], []⟩])))))
 (.seq (.region [q 0 9 (.load none (T 2)), ⟨1, none, none, (.e (.store 1 (T 2) (T 9))), [], []⟩])
 .ret))),
  10, [.cell none 2]⟩
noncomputable def c130 : AFn := ⟨(.seq (.region [⟨0, (some 1), none, (.n (.box 71 (T 0))), [], []⟩, q 1 2 (.move (I 0))])
 (.seq (.region [q 0 6 (.faddr 2 (T 1)), q 1 7 (.load none (T 6)), q 2 8 (.len .sl (T 7)), q 3 3 (mv 8)])
 (.seq (.seq (.region [q 0 9 (.faddr 4 (T 1)), q 1 10 (.load none (T 9)), q 2 11 (.len .sl (T 10)), q 3 12 (.move (I 0))])
 (.block 0 (.loop (.seq (.region [q 0 13 (.bin .lss .no (T 12) (T 11))])
 (.seq (.cond (T 13) .skip (.exit 0))
 (.seq (.block 1 (.seq (.region [q 0 14 (.iaddr (.sl 71 5) (T 10) (T 12)), q 1 15 (.load (some 5) (T 14)), ⟨2, (some 5), none, (.n (.alloc 71 [(.lit (bS [])), (.lit (.int .i64 (.ofNat 0))), (.sl 0 [] .full), (.sl 0 [] .full), (.sl 0 [] .full)])), [], []⟩, ⟨3, none, none, (.e (.store 5 (T 5) (T 15))), [], []⟩])
 (.region [q 0 16 (mv 3), q 1 17 (.load (some 5) (T 5)), ⟨2, (some 18), none, (.call 130 [(T 17)]), [], []⟩, q 3 19 (.bin .add .no (T 16) (T 18)), q 4 3 (mv 19)])))
 (.region [q 0 20 (.bin .add .no (T 12) (I 1)), q 1 12 (mv 20)])))))))
 (.seq (.region [q 0 21 (mv 3), q 1 2 (mv 21)])
 .ret)))),
  22, [.tmp 2]⟩
noncomputable def c131 : AFn := ⟨(.seq (.region [⟨0, (some 3), none, (.n (.box 86 (T 1))), [], []⟩, q 1 4 (.move (.const (.slice none 0 0)))])
 (.seq (.seq (.region [q 0 9 (mv 0), q 1 10 (.nilc (T 9)), q 2 11 (.faddr 0 (T 10)), q 3 12 (.faddr 1 (T 11)), q 4 13 (.load none (T 12)), q 5 14 (.len .sl (T 13)), q 6 15 (.move (I 0))])
 (.block 0 (.loop (.seq (.region [q 0 16 (.bin .lss .no (T 15) (T 14))])
 (.seq (.cond (T 16) .skip (.exit 0))
 (.seq (.block 1 (.seq (.region [q 0 17 (.iaddr (.sl 86 15) (T 13) (T 15)), q 1 18 (.load (some 15) (T 17)), ⟨2, (some 6), none, (.n (.alloc 86 [(.lit (bS [])), (.lit (.int .i64 (.ofNat 0))), (.lit (.int .i64 (.ofNat 0))), (.lit (.bool false)), (.lit (.bool false)), (.lit (.int .i64 (.ofNat 0))), (.lit (.int .i64 (.ofNat 0))), (.lit (.int .i64 (.ofNat 0))), (.sl 0 [] .full), (.lit (bS [])), (.lit (bS [])), (.lit (bS [])), (.sl 0 [] .full), (.lit (.int .i64 (.ofNat 0))), (.lit (.int .i64 (.ofNat 0)))])), [], []⟩, ⟨3, none, none, (.e (.store 15 (T 6) (T 18))), [], []⟩])
 (.seq (.region [q 0 19 (.faddr 1 (T 6)), q 1 20 (.load none (T 19)), q 2 21 (.bin .eql .no (T 20) (I 9)), q 3 22 (mv 21), qg 4 23 22 true (.faddr 10 (T 6)), qg 5 24 22 true (.load none (T 23)), qg 6 25 22 true (.faddr 0 (T 3)), qg 7 26 22 true (.load none (T 25)), qg 8 27 22 true (.bin .eql .no (T 24) (T 26)), q 9 28 (.pick (T 22) (T 27) (.const (.bool false)))])
 (.cond (T 28) (.seq (.region [q 0 29 (.faddr 12 (T 6)), q 1 30 (.load none (T 29)), q 2 31 (.len .sl (T 30)), q 3 32 (.move (I 0))])
 (.block 2 (.loop (.seq (.region [q 0 33 (.bin .lss .no (T 32) (T 31))])
 (.seq (.cond (T 33) .skip (.exit 2))
 (.seq (.block 3 (.seq (.region [q 0 34 (.iaddr (.sl 254 3) (T 30) (T 32)), q 1 35 (.load (some 3) (T 34)), ⟨2, (some 8), none, (.n (.alloc 254 [(.lit (.int .i64 (.ofNat 0))), (.lit (.int .i64 (.ofNat 0))), (.lit (bS []))])), [], []⟩, ⟨3, none, none, (.e (.store 3 (T 8) (T 35))), [], []⟩])
 (.region [q 0 36 (mv 4), q 1 37 (.faddr 0 (T 8)), q 2 38 (.load none (T 37)), q 3 39 (.faddr 1 (T 8)), q 4 40 (.load none (T 39)), q 5 41 (.bslice 1 2 [(0, (T 38)), (1, (T 40))]), ⟨6, (some 42), none, (.call 198 [(T 36), (T 41)]), [], []⟩, q 7 4 (mv 42)])))
 (.region [q 0 43 (.bin .add .no (T 32) (I 1)), q 1 32 (mv 43)]))))))) .skip))))
 (.region [q 0 44 (.bin .add .no (T 15) (I 1)), q 1 15 (mv 44)])))))))
 (.seq (.seq (.region [q 0 45 (mv 4), q 1 46 (.len .sl (T 45)), q 2 47 (.bin .eql .no (T 46) (I 0))])
 (.cond (T 47) (.region [q 0 48 (mv 4), q 1 49 (.faddr 5 (T 3)), q 2 50 (.load none (T 49)), q 3 51 (.faddr 6 (T 3)), q 4 52 (.load none (T 51)), q 5 53 (.bslice 1 2 [(0, (T 50)), (1, (T 52))]), ⟨6, (some 54), none, (.call 198 [(T 48), (T 53)]), [], []⟩, q 7 4 (mv 54)]) .skip))
 (.seq (.region [q 0 55 (mv 4), q 1 4 (mv 55)])
 .ret)))),
  56, [.tmp 4]⟩
noncomputable def c134 : AFn := ⟨(.seq (.region [⟨0, (some 1), none, (.n (.box 89 (T 0))), [], []⟩, q 1 2 (.move (.const (.slice none 0 0)))])
 (.seq (.region [q 0 3 (.faddr 1 (T 1)), q 1 4 (.load none (T 3)), ⟨2, (some 5), none, (.call 172 [(T 4)]), [], []⟩, ⟨3, (some 6), none, (.call 171 [(T 5), (.func 200)]), [], []⟩, q 4 2 (mv 6)])
 .ret)),
  7, [.tmp 2]⟩
noncomputable def c135 : AFn := ⟨(.seq (.region [q 0 4 (.move (.const (.bool false)))])
 (.seq (.region [q 0 5 (mv 0), q 1 6 (mv 1), ⟨2, (some 7), none, (.call 201 [(T 5), (T 6), (.func 202)]), [], []⟩, q 3 4 (mv 7)])
 .ret)),
  8, [.tmp 4]⟩
noncomputable def c137 : AFn := ⟨(.seq (.region [⟨0, (some 1), none, (.n (.box 86 (T 0))), [], []⟩, q 1 2 (.move (.const (.bool false)))])
 (.seq (.region [q 0 3 (.faddr 1 (T 1)), q 1 4 (.load none (T 3)), q 2 5 (.bin .eql .no (T 4) (I 1)), q 3 6 (mv 5), qg 4 7 6 false (.faddr 1 (T 1)), qg 5 8 6 false (.load none (T 7)), qg 6 9 6 false (.bin .eql .no (T 8) (I 2)), q 7 10 (.pick (T 6) (.const (.bool true)) (T 9)), q 8 11 (mv 10), qg 9 12 11 false (.faddr 1 (T 1)), qg 10 13 11 false (.load none (T 12)), qg 11 14 11 false (.bin .eql .no (T 13) (I 3)), q 12 15 (.pick (T 11) (.const (.bool true)) (T 14)), q 13 2 (mv 15)])
 .ret)),
  16, [.tmp 2]⟩
noncomputable def c145 : AFn := ⟨(.seq (.region [⟨0, (some 2), none, (.n (.box 89 (T 0))), [], []⟩, q 1 4 (.move (.const (.map none)))])
 (.seq (.region [⟨0, (some 10), none, (.n (.makeMap .str)), [], []⟩, q 1 5 (mv 10)])
 (.seq (.seq (.region [q 0 11 (.faddr 1 (T 2)), q 1 12 (.load none (T 11)), q 2 13 (.len .sl (T 12)), q 3 14 (.move (I 0))])
 (.block 0 (.loop (.seq (.region [q 0 15 (.bin .lss .no (T 14) (T 13))])
 (.seq (.cond (T 15) .skip (.exit 0))
 (.seq (.block 1 (.seq (.region [q 0 16 (.iaddr (.sl 86 15) (T 12) (T 14)), q 1 17 (.load (some 15) (T 16)), ⟨2, (some 7), none, (.n (.alloc 86 [(.lit (bS [])), (.lit (.int .i64 (.ofNat 0))), (.lit (.int .i64 (.ofNat 0))), (.lit (.bool false)), (.lit (.bool false)), (.lit (.int .i64 (.ofNat 0))), (.lit (.int .i64 (.ofNat 0))), (.lit (.int .i64 (.ofNat 0))), (.sl 0 [] .full), (.lit (bS [])), (.lit (bS [])), (.lit (bS [])), (.sl 0 [] .full), (.lit (.int .i64 (.ofNat 0))), (.lit (.int .i64 (.ofNat 0)))])), [], []⟩, ⟨3, none, none, (.e (.store 15 (T 7) (T 17))), [], []⟩])
 (.seq (.region [q 0 18 (.faddr 1 (T 7)), q 1 19 (.load none (T 18)), q 2 20 (.bin .eql .no (T 19) (I 2))])
 (.cond (T 20) (.region [q 0 21 (mv 5), q 1 22 (.faddr 0 (T 7)), q 2 23 (.load none (T 22)), q 3 24 (.faddr 5 (T 7)), q 4 25 (.load none (T 24)), ⟨5, none, none, (.e (.mapPut .str (T 21) (T 23) (T 25))), [], []⟩]) .skip))))
 (.region [q 0 26 (.bin .add .no (T 14) (I 1)), q 1 14 (mv 26)])))))))
 (.seq (.seq (.region [q 0 27 (.load (some 2) (T 2)), ⟨1, (some 28), none, (.call 134 [(T 27)]), [], []⟩, q 2 29 (.len .sl (T 28)), q 3 30 (.move (I 0))])
 (.block 2 (.loop (.seq (.region [q 0 31 (.bin .lss .no (T 30) (T 29))])
 (.seq (.cond (T 31) .skip (.exit 2))
 (.seq (.block 3 (.seq (.region [q 0 32 (mv 30), q 1 33 (.iaddr (.sl 86 15) (T 28) (T 30)), q 2 34 (.load (some 15) (T 33)), ⟨3, (some 9), none, (.n (.alloc 86 [(.lit (bS [])), (.lit (.int .i64 (.ofNat 0))), (.lit (.int .i64 (.ofNat 0))), (.lit (.bool false)), (.lit (.bool false)), (.lit (.int .i64 (.ofNat 0))), (.lit (.int .i64 (.ofNat 0))), (.lit (.int .i64 (.ofNat 0))), (.sl 0 [] .full), (.lit (bS [])), (.lit (bS [])), (.lit (bS [])), (.sl 0 [] .full), (.lit (.int .i64 (.ofNat 0))), (.lit (.int .i64 (.ofNat 0)))])), [], []⟩, q 4 8 (mv 32), ⟨5, none, none, (.e (.store 15 (T 9) (T 34))), [], []⟩])
 (.seq (.region [q 0 35 (.load (some 15) (T 9)), ⟨1, (some 36), none, (.call 137 [(T 35)]), [], []⟩])
 (.cond (T 36) (.draw [.one (qd 0 37 (mv 5) [5] []), .one (qd 1 38 (.faddr 0 (T 9)) [9] []), .one (qd 2 39 (.load none (T 38)) [38] []), .one (qd 3 40 (mv 1) [1] []), .one (qd 4 41 (mv 8) [8] []), .one (qd 5 42 (.iaddr (.sl 71 5) (T 40) (T 41)) [40, 41] []), .one (qd 6 43 (.faddr 1 (T 42)) [42] []), .one (qd 7 44 (.load none (T 43)) [43] []), .one (⟨8, none, none, (.e (.mapPut .str (T 37) (T 39) (T 44))), [37, 39, 44], []⟩)]) .skip))))
 (.region [q 0 45 (.bin .add .no (T 30) (I 1)), q 1 30 (mv 45)])))))))
 (.seq (.region [q 0 46 (mv 5), q 1 4 (mv 46)])
 .ret))))),
  47, [.tmp 4]⟩
noncomputable def c147 : AFn := ⟨(.seq (.region [⟨0, (some 4), none, (.n (.box 40 (T 0))), [], []⟩, ⟨1, (some 5), none, (.n (.box 89 (T 1))), [], []⟩, ⟨2, (some 6), none, (.n (.box 71 (T 2))), [], []⟩])
 (.seq (.draw [.one (qd 0 12 (.load (some 2) (T 5)) [5] []), .one (qd 1 13 (.load (some 3) (T 4)) [4] []), .one (qd 2 14 (mv 3) [3] []), .one (qd 3 15 (.build (.struct [(0, 2), (2, 3), (5, 1), (6, 1)]) [(.lit (bS [])), (.sl 0 [] .full), (.lit (bS [])), (.sl 0 [] .full), (.lit (bS [])), (.lit (bS [])), (.lit (.map none))] [(0, (T 12)), (1, (T 13)), (2, (T 14))]) [12, 13, 14] []), .one (qd 4 16 (.load (some 2) (T 5)) [5] []), .one (⟨6, (some 8), none, (.n (.alloc 319 [(.lit (bS [])), (.sl 0 [] .full), (.lit (bS [])), (.sl 0 [] .full), (.lit (bS [])), (.lit (bS [])), (.lit (.map none))])), [], []⟩), .one (⟨5, (some 17), none, (.call 134 [(T 16)]), [16], [6, 3, 2, 1, 0]⟩), .one (⟨7, none, none, (.e (.store 7 (T 8) (T 15))), [8, 15], []⟩), .one (qd 8 9 (mv 17) [17] [])])
 (.seq (.region [q 0 18 (.faddr 0 (T 6)), q 1 19 (.load none (T 18)), q 2 20 (.faddr 0 (T 8)), q 3 21 (.faddr 0 (T 20)), q 4 22 (.load none (T 21)), q 5 23 (.bin .eql .no (T 19) (T 22)), q 6 24 (mv 23), qg 7 25 24 true (.faddr 1 (T 6)), qg 8 26 24 true (.load none (T 25)), qg 9 27 24 true (.bin .eql .no (T 26) (I 0)), q 10 28 (.pick (T 24) (T 27) (.const (.bool false))), q 11 29 (mv 28), qg 12 30 29 true (.faddr 2 (T 6)), qg 13 31 29 true (.load none (T 30)), qg 14 32 29 true (.len .sl (T 31)), qg 15 33 29 true (.bin .eql .no (T 32) (I 0)), q 16 34 (.pick (T 29) (T 33) (.const (.bool false))), q 17 35 (mv 34), qg 18 36 35 true (.faddr 3 (T 6)), qg 19 37 35 true (.load none (T 36)), qg 20 38 35 true (.len .sl (T 37)), qg 21 39 35 true (.bin .eql .no (T 38) (I 0)), q 22 40 (.pick (T 35) (T 39) (.const (.bool false))), q 23 41 (mv 40), qg 24 42 41 true (mv 9), qg 25 43 41 true (.faddr 4 (T 6)), qg 26 44 41 true (.load none (T 43)), ⟨27, (some 45), (some (41, true)), (.call 135 [(T 42), (T 44)]), [], []⟩, q 28 46 (.pick (T 41) (T 45) (.const (.bool false))), q 29 47 (mv 3), ⟨30, (some 48), none, (.call 217 [(T 46), (T 47), (I 6)]), [], []⟩])
 (.seq (.region [q 0 49 (.load (some 2) (T 5)), q 1 50 (.faddr 4 (T 6)), q 2 51 (.load none (T 50)), ⟨3, (some 52), none, (.call 145 [(T 49), (T 51)]), [], []⟩, q 4 53 (.faddr 6 (T 8)), ⟨5, none, none, (.e (.store 1 (T 53) (T 52))), [], []⟩])
 (.seq (.region [q 0 54 (mv 9), q 1 55 (.len .sl (T 54)), q 2 56 (.move (I 0))])
 (.block 0 (.loop (.seq (.region [q 0 57 (.bin .lss .no (T 56) (T 55))])
 (.seq (.cond (T 57) .skip (.exit 0))
 (.seq (.block 1 (.seq (.region [q 0 58 (mv 56), q 1 59 (.iaddr (.sl 86 15) (T 54) (T 56)), q 2 60 (.load (some 15) (T 59)), ⟨3, (some 11), none, (.n (.alloc 86 [(.lit (bS [])), (.lit (.int .i64 (.ofNat 0))), (.lit (.int .i64 (.ofNat 0))), (.lit (.bool false)), (.lit (.bool false)), (.lit (.int .i64 (.ofNat 0))), (.lit (.int .i64 (.ofNat 0))), (.lit (.int .i64 (.ofNat 0))), (.sl 0 [] .full), (.lit (bS [])), (.lit (bS [])), (.lit (bS [])), (.sl 0 [] .full), (.lit (.int .i64 (.ofNat 0))), (.lit (.int .i64 (.ofNat 0)))])), [], []⟩, q 4 10 (mv 58), ⟨5, none, none, (.e (.store 15 (T 11) (T 60))), [], []⟩])
 (.draw [.one (qd 0 61 (.load (some 7) (T 8)) [8] []), .one (qd 1 62 (.load (some 15) (T 11)) [11] []), .one (qd 2 63 (.faddr 4 (T 6)) [6] []), .one (qd 3 64 (.load none (T 63)) [63] []), .one (qd 4 65 (mv 10) [10] []), .one (qd 5 66 (.iaddr (.sl 71 5) (T 64) (T 65)) [64, 65] []), .one (qd 6 67 (.load (some 5) (T 66)) [66] []), .one (⟨7, (some 68), none, (.call 218 [(T 61), (T 62), (T 67)]), [61, 62, 67], []⟩)])))
 (.region [q 0 69 (.bin .add .no (T 56) (I 1)), q 1 56 (mv 69)]))))))))))),
  70, []⟩
noncomputable def c148 : AFn := ⟨(.seq (.region [q 0 4 (.move (I 0))])
 (.seq (.seq (.region [q 0 6 (mv 0), q 1 7 (.len .sl (T 6)), q 2 8 (.move (I 0))])
 (.block 0 (.loop (.seq (.region [q 0 9 (.bin .lss .no (T 8) (T 7))])
 (.seq (.cond (T 9) .skip (.exit 0))
 (.seq (.block 1 (.seq (.region [q 0 10 (mv 8), q 1 5 (mv 10)])
 (.seq (.region [q 0 11 (mv 1), q 1 12 (mv 0), q 2 13 (mv 5), q 3 14 (.iaddr (.sl 71 5) (T 12) (T 13)), q 4 15 (.load (some 5) (T 14)), ⟨5, (some 16), none, (.callv (T 11) [(T 15)]), [], []⟩])
 (.cond (T 16) (.seq (.region [q 0 17 (mv 5), q 1 4 (mv 17)])
 .ret) .skip))))
 (.region [q 0 18 (.bin .add .no (T 8) (I 1)), q 1 8 (mv 18)])))))))
 (.seq (.region [q 0 4 (.move (.const (.int .i64 (.negSucc 0))))])
 .ret))),
  19, [.tmp 4]⟩
noncomputable def c149 : AFn := ⟨(.seq (.region [q 0 2 (.move (I 0))])
 (.seq (.region [q 0 3 (.move (I 0))])
 (.seq (.seq (.region [q 0 6 (mv 0), q 1 7 (.len .sl (T 6)), q 2 8 (.move (I 0))])
 (.block 0 (.loop (.seq (.region [q 0 9 (.bin .lss .no (T 8) (T 7))])
 (.seq (.cond (T 9) .skip (.exit 0))
 (.seq (.block 1 (.seq (.region [q 0 10 (.iaddr (.sl 3 1) (T 6) (T 8)), q 1 11 (.load none (T 10)), q 2 5 (mv 11)])
 (.seq (.region [q 0 12 (mv 5), q 1 13 (mv 3), q 2 14 (.bin .neq .no (T 12) (T 13))])
 (.cond (T 14) (.seq (.region [q 0 15 (mv 5), q 1 2 (mv 15)])
 .ret) .skip))))
 (.region [q 0 16 (.bin .add .no (T 8) (I 1)), q 1 8 (mv 16)])))))))
 (.seq (.region [q 0 17 (mv 3), q 1 2 (mv 17)])
 .ret)))),
  18, [.tmp 2]⟩
noncomputable def c150 : AFn := ⟨(.seq (.region [q 0 4 (.move (I 0))])
 (.seq (.region [q 0 5 (mv 0), q 1 6 (mv 1), ⟨2, (some 7), none, (.call 219 [(T 5), (T 6)]), [], []⟩, q 3 4 (mv 7)])
 .ret)),
  8, [.tmp 4]⟩
noncomputable def c151 : AFn := ⟨(.seq (.region [q 0 4 (.move (I 0))])
 (.seq (.region [q 0 7 (mv 0), ⟨1, (some 8), none, (.call 220 [(T 7)]), [], []⟩, q 2 5 (mv 8)])
 (.seq (.region [q 0 9 (mv 1), ⟨1, (some 10), none, (.call 220 [(T 9)]), [], []⟩, q 2 6 (mv 10)])
 (.seq (.seq (.region [q 0 11 (mv 5)])
 (.cond (T 11) (.seq (.seq (.region [q 0 12 (mv 6)])
 (.cond (T 12) (.seq (.region [q 0 4 (.move (I 0))])
 .ret) .skip))
 (.seq (.region [q 0 4 (.move (.const (.int .i64 (.negSucc 0))))])
 .ret)) .skip))
 (.seq (.seq (.region [q 0 13 (mv 6)])
 (.cond (T 13) (.seq (.region [q 0 4 (.move (I 1))])
 .ret) .skip))
 (.seq (.seq (.region [q 0 14 (mv 0), q 1 15 (mv 1), q 2 16 (.bin .lss .no (T 14) (T 15))])
 (.cond (T 16) (.seq (.region [q 0 4 (.move (.const (.int .i64 (.negSucc 0))))])
 .ret) .skip))
 (.seq (.seq (.region [q 0 17 (mv 0), q 1 18 (mv 1), q 2 19 (.bin .gtr .no (T 17) (T 18))])
 (.cond (T 19) (.seq (.region [q 0 4 (.move (I 1))])
 .ret) .skip))
 (.seq (.region [q 0 4 (.move (I 0))])
 .ret)))))))),
  20, [.tmp 4]⟩
noncomputable def c152 : AFn := ⟨(.seq (.region [q 0 4 (.move (I 0))])
 (.seq (.region [q 0 5 (mv 0), q 1 6 (mv 1), q 2 7 (.ext .cmp (T 5) (T 6)), q 3 4 (mv 7)])
 .ret)),
  8, [.tmp 4]⟩
noncomputable def c153 : AFn := ⟨(.seq (.region [q 0 6 (.move (I 0))])
 (.seq (.seq (.region [q 0 9 (mv 0), q 1 10 (.len .sl (T 9)), q 2 11 (mv 1), q 3 12 (.len .sl (T 11)), q 4 13 (.min [(T 10), (T 12)]), q 5 14 (.move (I 0))])
 (.block 0 (.loop (.seq (.region [q 0 15 (.bin .lss .no (T 14) (T 13))])
 (.seq (.cond (T 15) .skip (.exit 0))
 (.seq (.block 1 (.seq (.region [q 0 16 (mv 14), q 1 7 (mv 16)])
 (.seq (.draw [.one (qd 0 17 (mv 2) [2] []), .one (qd 1 18 (mv 0) [0] []), .one (qd 2 19 (mv 7) [7] []), .one (qd 3 20 (.iaddr (.sl 127 2) (T 18) (T 19)) [18, 19] []), .one (qd 4 21 (.load (some 2) (T 20)) [20] []), .one (qd 5 22 (mv 1) [1] []), .one (qd 6 23 (mv 7) [7] []), .one (qd 7 24 (.iaddr (.sl 127 2) (T 22) (T 23)) [22, 23] []), .one (qd 8 25 (.load (some 2) (T 24)) [24] []), .one (⟨9, (some 26), none, (.callv (T 17) [(T 21), (T 25)]), [17, 21, 25], []⟩), .one (qd 10 8 (mv 26) [26] [])])
 (.seq (.region [q 0 27 (mv 8), q 1 28 (.bin .neq .no (T 27) (I 0))])
 (.cond (T 28) (.seq (.region [q 0 29 (mv 8), q 1 6 (mv 29)])
 .ret) .skip)))))
 (.region [q 0 30 (.bin .add .no (T 14) (I 1)), q 1 14 (mv 30)])))))))
 (.seq (.region [q 0 31 (mv 0), q 1 32 (.len .sl (T 31)), q 2 33 (mv 1), q 3 34 (.len .sl (T 33)), ⟨4, (some 35), none, (.call 151 [(T 32), (T 34)]), [], []⟩, q 5 6 (mv 35)])
 .ret))),
  36, [.tmp 6]⟩
noncomputable def c155 : AFn := ⟨(.seq (.region [q 0 6 (.move (I 0))])
 (.seq (.seq (.region [q 0 9 (mv 0), q 1 10 (.len .sl (T 9)), q 2 11 (mv 1), q 3 12 (.len .sl (T 11)), q 4 13 (.min [(T 10), (T 12)]), q 5 14 (.move (I 0))])
 (.block 0 (.loop (.seq (.region [q 0 15 (.bin .lss .no (T 14) (T 13))])
 (.seq (.cond (T 15) .skip (.exit 0))
 (.seq (.block 1 (.seq (.region [q 0 16 (mv 14), q 1 7 (mv 16)])
 (.seq (.draw [.one (qd 0 17 (mv 2) [2] []), .one (qd 1 18 (mv 0) [0] []), .one (qd 2 19 (mv 7) [7] []), .one (qd 3 20 (.iaddr (.sl 71 5) (T 18) (T 19)) [18, 19] []), .one (qd 4 21 (.load (some 5) (T 20)) [20] []), .one (qd 5 22 (mv 1) [1] []), .one (qd 6 23 (mv 7) [7] []), .one (qd 7 24 (.iaddr (.sl 71 5) (T 22) (T 23)) [22, 23] []), .one (qd 8 25 (.load (some 5) (T 24)) [24] []), .one (⟨9, (some 26), none, (.callv (T 17) [(T 21), (T 25)]), [17, 21, 25], []⟩), .one (qd 10 8 (mv 26) [26] [])])
 (.seq (.region [q 0 27 (mv 8), q 1 28 (.bin .neq .no (T 27) (I 0))])
 (.cond (T 28) (.seq (.region [q 0 29 (mv 8), q 1 6 (mv 29)])
 .ret) .skip)))))
 (.region [q 0 30 (.bin .add .no (T 14) (I 1)), q 1 14 (mv 30)])))))))
 (.seq (.region [q 0 31 (mv 0), q 1 32 (.len .sl (T 31)), q 2 33 (mv 1), q 3 34 (.len .sl (T 33)), ⟨4, (some 35), none, (.call 151 [(T 32), (T 34)]), [], []⟩, q 5 6 (mv 35)])
 .ret))),
  36, [.tmp 6]⟩
noncomputable def c156 : AFn := ⟨(.seq (.region [⟨0, (some 4), none, (.n (.box 86 (T 1))), [], []⟩, ⟨1, (some 5), none, (.n (.box 71 (T 2))), [], []⟩])
 (.seq (.seq (.region [q 0 7 (.faddr 3 (T 4)), q 1 8 (.load none (T 7)), q 2 9 (.un .not (T 8))])
 (.cond (T 9) (.seq (.draw [.one (qd 0 10 (mv 0) [0] []), .one (qd 1 11 (.nilc (T 10)) [10] []), .one (qd 2 12 (.faddr 0 (T 11)) [11] []), .one (qd 3 13 (.faddr 1 (T 5)) [5] []), .one (qd 4 14 (.load none (T 13)) [13] []), .one (qd 5 15 (.faddr 2 (T 4)) [4] []), .one (qd 6 16 (.load none (T 15)) [15] []), .one (⟨7, (some 17), none, (.call 222 [(T 12), (T 14), (T 16)]), [12, 14, 16], []⟩)])
 .ret) .skip))
 (.seq (.region [q 0 6 (.move (I 0))])
 (.block 0 (.loop (.seq (.seq (.region [q 0 18 (mv 6), q 1 19 (.faddr 2 (T 4)), q 2 20 (.load none (T 19)), q 3 21 (.bin .lss .no (T 18) (T 20))])
 (.cond (T 21) .skip (.exit 0)))
 (.seq (.block 1 (.draw [.one (qd 0 24 (mv 0) [0] []), .one (qd 1 25 (.nilc (T 24)) [24] []), .one (qd 2 26 (.faddr 0 (T 25)) [25] []), .one (qd 3 27 (.faddr 1 (T 5)) [5] []), .one (qd 4 28 (.load none (T 27)) [27] []), .one (qd 5 29 (mv 6) [6] []), .one (qd 6 30 (.bin .shr .no (T 28) (T 29)) [28, 29] []), .one (qd 7 31 (.conv (.int .u8) (T 30)) [30] []), .one (qd 8 32 (.bslice 1 1 [(0, (T 31))]) [31] []), .one (⟨9, (some 33), none, (.call 223 [(T 26), (T 32)]), [26, 32], []⟩)]))
 (.region [q 0 22 (mv 6), q 1 23 (.bin .add .no (T 22) (I 8)), q 2 6 (mv 23)])))))))),
  34, []⟩
noncomputable def c166 : AFn := ⟨(.seq (.region [⟨0, (some 2), none, (.n (.box 71 (T 0))), [], []⟩, ⟨1, (some 4), none, (.n (.alloc 71 [(.lit (bS [])), (.lit (.int .i64 (.ofNat 0))), (.sl 0 [] .full), (.sl 0 [] .full), (.sl 0 [] .full)])), [], []⟩, q 2 5 (.move (.const (.bool false)))])
 (.seq (.region [q 0 7 (.load (some 5) (T 2)), q 1 8 (mv 1), q 2 9 (.build (.struct [(0, 1), (1, 1)]) [(.lit (bS [])), (.lit (.int .i64 (.ofNat 0)))] [(0, (T 8))]), ⟨3, (some 10), none, (.call 232 [(T 7), (T 9)]), [], []⟩, q 4 6 (mv 10)])
 (.seq (.seq (.region [q 0 11 (mv 6), q 1 12 (.bin .lss .no (T 11) (I 0))])
 (.cond (T 12) (.seq (.region [q 0 13 (.build (.struct [(0, 1), (1, 1), (2, 1), (3, 1), (4, 1)]) [(.lit (bS [])), (.lit (.int .i64 (.ofNat 0))), (.sl 0 [] .full), (.sl 0 [] .full), (.sl 0 [] .full)] []), ⟨1, none, none, (.e (.store 5 (T 4) (T 13))), [], []⟩, q 2 5 (.move (.const (.bool false)))])
 .ret) .skip))
 (.seq (.region [q 0 14 (.faddr 4 (T 2)), q 1 15 (.load none (T 14)), q 2 16 (mv 6), q 3 17 (.iaddr (.sl 71 5) (T 15) (T 16)), q 4 18 (.load (some 5) (T 17)), ⟨5, (some 19), none, (.call 37 [(T 18)]), [], []⟩, ⟨6, none, none, (.e (.store 5 (T 4) (T 19))), [], []⟩, q 7 5 (.move (.const (.bool true)))])
 .ret)))),
  20, [.cell (some 5) 4, .tmp 5]⟩
noncomputable def c167 : AFn := ⟨(.seq (.region [q 0 6 (.move (.const (bS [])))])
 (.seq (.seq (.region [q 0 7 (mv 0), q 1 8 (.bin .neq .no (T 7) (.const (bS [])))])
 (.cond (T 8) (.region [q 0 9 (mv 0), q 1 10 (.bin .add .no (T 9) (.const (bS [46]))), q 2 0 (mv 10)]) .skip))
 (.seq (.seq (.region [q 0 11 (mv 2), q 1 12 (.bin .gtr .no (T 11) (I 0))])
 (.cond (T 12) (.region [q 0 13 (mv 1), q 1 14 (mv 2), ⟨2, (some 15), none, (.call 63 [(T 14)]), [], []⟩, q 3 16 (.bin .add .no (.const (bS [58])) (T 15)), q 4 17 (.bin .add .no (T 13) (T 16)), q 5 1 (mv 17)]) .skip))
 (.seq (.region [q 0 18 (mv 0), q 1 19 (mv 1), q 2 20 (.bin .add .no (T 18) (T 19)), q 3 6 (mv 20)])
 .ret)))),
  21, [.tmp 6]⟩
noncomputable def c168 : AFn := ⟨(.seq (.region [⟨0, (some 3), none, (.n (.box 86 (T 0))), [], []⟩, ⟨1, (some 4), none, (.n (.box 71 (T 1))), [], []⟩, q 2 6 (.move (I 0))])
 (.seq (.seq (.region [q 0 7 (.faddr 1 (T 3)), q 1 8 (.load none (T 7))])
 (.block 0 (.seq (.seq (.region [q 0 10 (.bin .eql .no (T 8) (I 1)), q 1 9 (mv 10)])
 (.cond (T 9) .skip (.region [q 0 11 (.bin .eql .no (T 8) (I 2)), q 1 9 (mv 11)])))
 (.cond (T 9) (.region [q 0 12 (.faddr 2 (T 3)), q 1 13 (.load none (T 12)), q 2 6 (mv 13)]) (.seq (.region [q 0 15 (.bin .eql .no (T 8) (I 3)), q 1 14 (mv 15)])
 (.cond (T 14) (.seq (.region [q 0 17 (.faddr 1 (T 4)), q 1 18 (.load none (T 17)), ⟨2, (some 19), none, (.call 213 [(T 18)]), [], []⟩, q 3 16 (mv 19), q 4 20 (.extract (T 16) 0), q 5 21 (.extract (T 16) 1), q 6 6 (mv 20)])
 (.region [q 0 22 (mv 6), q 1 23 (.bin .mul .no (T 22) (I 8)), q 2 6 (mv 23)])) (.seq (.region [q 0 25 (.bin .eql .no (T 8) (I 4)), q 1 24 (mv 25)])
 (.cond (T 24) (.region [q 0 26 (.faddr 2 (T 4)), q 1 27 (.load none (T 26)), q 2 28 (.len .sl (T 27)), q 3 29 (.bin .mul .no (I 8) (T 28)), q 4 6 (mv 29)]) (.seq (.region [q 0 31 (.bin .eql .no (T 8) (I 5)), q 1 30 (mv 31)])
 (.cond (T 30) (.region [q 0 32 (.faddr 2 (T 4)), q 1 33 (.load none (T 32)), q 2 34 (.len .sl (T 33)), q 3 35 (.bin .add .no (T 34) (I 1)), q 4 36 (.bin .mul .no (I 8) (T 35)), q 5 6 (mv 36)]) (.seq (.region [q 0 38 (.bin .eql .no (T 8) (I 6)), q 1 37 (mv 38)])
 (.cond (T 37) (.seq (.region [q 0 40 (.faddr 3 (T 4)), q 1 41 (.load none (T 40)), ⟨2, (some 42), none, (.call 233 [(T 41)]), [], []⟩, q 3 39 (mv 42), q 4 43 (.extract (T 39) 0), q 5 44 (.extract (T 39) 1), q 6 6 (mv 43)])
 (.region [q 0 45 (mv 6), q 1 46 (.bin .mul .no (T 45) (I 8)), q 2 6 (mv 46)])) (.seq (.region [q 0 48 (.bin .eql .no (T 8) (I 10)), q 1 47 (mv 48)])
 (.cond (T 47) (.draw [.one (qd 0 50 (.faddr 2 (T 3)) [3] []), .one (qd 1 51 (.load none (T 50)) [50] []), .one (qd 2 52 (mv 2) [2] []), .one (qd 3 53 (.faddr 2 (T 3)) [3] []), .one (qd 4 54 (.load none (T 53)) [53] []), .one (qd 5 55 (.max [(I 1), (T 54)]) [54] []), .one (qd 6 56 (.bin .rem .no (T 52) (T 55)) [52, 55] []), .one (⟨7, (some 57), none, (.call 211 [(T 51), (T 56)]), [51, 56], []⟩), .one (qd 8 49 (mv 57) [57] []), .one (qd 9 58 (.extract (T 49) 0) [49] []), .one (qd 10 59 (.extract (T 49) 1) [49] []), .one (qd 11 6 (mv 58) [58] [])]) (.seq (.region [q 0 61 (.bin .eql .no (T 8) (I 11)), q 1 60 (mv 61)])
 (.cond (T 60) (.region [q 0 63 (.faddr 13 (T 3)), q 1 64 (.load none (T 63)), ⟨2, (some 65), none, (.call 212 [(T 64)]), [], []⟩, q 3 62 (mv 65), q 4 66 (.extract (T 62) 0), q 5 67 (.extract (T 62) 1), q 6 6 (mv 66)]) .skip))))))))))))))))
 (.seq (.region [q 0 68 (mv 6), q 1 6 (mv 68)])
 .ret))),
  69, [.tmp 6]⟩
noncomputable def c170 : AFn := ⟨(.seq (.region [q 0 4 (.move (.const (.bool false)))])
 (.seq (.region [q 0 5 (mv 0), q 1 6 (mv 1), ⟨2, (some 7), none, (.call 195 [(T 5), (T 6)]), [], []⟩, q 3 8 (.bin .geq .no (T 7) (I 0)), q 4 4 (mv 8)])
 .ret)),
  9, [.tmp 4]⟩
noncomputable def c171 : AFn := ⟨(.seq (.region [q 0 4 (.move (.const (.slice none 0 0)))])
 (.seq (.region [q 0 8 (mv 0), q 1 9 (mv 1), ⟨2, (some 10), none, (.call 195 [(T 8), (T 9)]), [], []⟩, q 3 5 (mv 10)])
 (.seq (.seq (.region [q 0 11 (mv 5), q 1 12 (.bin .eql .no (T 11) (.const (.int .i64 (.negSucc 0))))])
 (.cond (T 12) (.seq (.region [q 0 13 (mv 0), q 1 4 (mv 13)])
 .ret) .skip))
 (.seq (.seq (.region [q 0 14 (mv 5), q 1 15 (.bin .add .no (T 14) (I 1)), q 2 6 (mv 15)])
 (.block 0 (.loop (.seq (.seq (.region [q 0 16 (mv 6), q 1 17 (mv 0), q 2 18 (.len .sl (T 17)), q 3 19 (.bin .lss .no (T 16) (T 18))])
 (.cond (T 19) .skip (.exit 0)))
 (.seq (.block 1 (.seq (.region [q 0 22 (mv 0), q 1 23 (mv 6), q 2 24 (.iaddr (.sl 86 15) (T 22) (T 23)), q 3 25 (.load (some 15) (T 24)), ⟨4, (some 7), none, (.n (.alloc 86 [(.lit (bS [])), (.lit (.int .i64 (.ofNat 0))), (.lit (.int .i64 (.ofNat 0))), (.lit (.bool false)), (.lit (.bool false)), (.lit (.int .i64 (.ofNat 0))), (.lit (.int .i64 (.ofNat 0))), (.lit (.int .i64 (.ofNat 0))), (.sl 0 [] .full), (.lit (bS [])), (.lit (bS [])), (.lit (bS [])), (.sl 0 [] .full), (.lit (.int .i64 (.ofNat 0))), (.lit (.int .i64 (.ofNat 0)))])), [], []⟩, ⟨5, none, none, (.e (.store 15 (T 7) (T 25))), [], []⟩])
 (.seq (.region [q 0 26 (mv 1), q 1 27 (.load (some 15) (T 7)), ⟨2, (some 28), none, (.callv (T 26) [(T 27)]), [], []⟩, q 3 29 (.un .not (T 28))])
 (.cond (T 29) (.seq (.region [q 0 30 (mv 0), q 1 31 (mv 5), q 2 32 (.load (some 15) (T 7)), q 3 33 (.iaddr (.sl 86 15) (T 30) (T 31)), ⟨4, none, none, (.e (.store 15 (T 33) (T 32))), [], []⟩])
 (.region [q 0 34 (mv 5), q 1 35 (.bin .add .no (T 34) (I 1)), q 2 5 (mv 35)])) .skip))))
 (.region [q 0 20 (mv 6), q 1 21 (.bin .add .no (T 20) (I 1)), q 2 6 (mv 21)]))))))
 (.seq (.region [q 0 36 (mv 0), q 1 37 (mv 5), q 2 38 (.slice (.sl 86 15) (T 36) (some (T 37)) none none), ⟨3, none, none, (.e (.clear [(.lit (bS [])), (.lit (.int .i64 (.ofNat 0))), (.lit (.int .i64 (.ofNat 0))), (.lit (.bool false)), (.lit (.bool false)), (.lit (.int .i64 (.ofNat 0))), (.lit (.int .i64 (.ofNat 0))), (.lit (.int .i64 (.ofNat 0))), (.sl 0 [] .full), (.lit (bS [])), (.lit (bS [])), (.lit (bS [])), (.sl 0 [] .full), (.lit (.int .i64 (.ofNat 0))), (.lit (.int .i64 (.ofNat 0)))] (T 38))), [], []⟩])
 (.seq (.region [q 0 39 (mv 0), q 1 40 (mv 5), q 2 41 (.slice (.sl 86 15) (T 39) none (some (T 40)) none), q 3 4 (mv 41)])
 .ret)))))),
  42, [.tmp 4]⟩
noncomputable def c172 : AFn := ⟨(.seq (.region [q 0 2 (.move (.const (.slice none 0 0)))])
 (.seq (.seq (.region [q 0 3 (mv 0), ⟨1, (some 4), none, (.isnil .sl (T 3) false), [], []⟩])
 (.cond (T 4) (.seq (.region [q 0 2 (.move (.const (.slice none 0 0)))])
 .ret) .skip))
 (.seq (.region [q 0 5 (.bslice 15 0 []), q 1 6 (mv 0), ⟨2, (some 7), none, (.e (.appendM 86 15 176 (T 5) (T 6))), [], []⟩, q 3 2 (mv 7)])
 .ret))),
  8, [.tmp 2]⟩
noncomputable def c173 : AFn := ⟨(.seq (.region [⟨0, (some 2), none, (.n (.box 86 (T 0))), [], []⟩, q 1 3 (.move (.const (.bool false)))])
 (.seq (.region [q 0 4 (.faddr 1 (T 2)), q 1 5 (.load none (T 4)), q 2 6 (.bin .neq .no (T 5) (I 9)), q 3 7 (mv 6), qg 4 8 7 false (.faddr 10 (T 2)), qg 5 9 7 false (.load none (T 8)), qg 6 10 7 false (.load none (T 1)), qg 7 11 7 false (.bin .neq .no (T 9) (T 10)), q 8 12 (.pick (T 7) (.const (.bool true)) (T 11)), q 9 3 (mv 12)])
 .ret)),
  13, [.tmp 3]⟩
noncomputable def c175 : AFn := ⟨(.seq (.region [q 0 8 (.move (.const (.bool true)))])
 (.seq (.region [q 0 9 (.move (.const (.bool true)))])
 (.block 0 (.loop (.block 1 (.seq (.region [q 0 19 (mv 2), q 1 20 (mv 1), q 2 21 (.bin .sub .no (T 19) (T 20)), q 3 10 (mv 21)])
 (.seq (.seq (.region [q 0 22 (mv 10), q 1 23 (.bin .leq .no (T 22) (I 12))])
 (.cond (T 23) (.seq (.region [q 0 24 (mv 0), q 1 25 (mv 1), q 2 26 (mv 2), ⟨3, (some 27), none, (.call 235 [(T 24), (T 25), (T 26)]), [], []⟩])
 .ret) .skip))
 (.seq (.seq (.region [q 0 28 (mv 3), q 1 29 (.bin .eql .no (T 28) (I 0))])
 (.cond (T 29) (.seq (.region [q 0 30 (mv 0), q 1 31 (mv 1), q 2 32 (mv 2), ⟨3, (some 33), none, (.call 236 [(T 30), (T 31), (T 32)]), [], []⟩])
 .ret) .skip))
 (.seq (.seq (.region [q 0 34 (mv 8), q 1 35 (.un .not (T 34))])
 (.cond (T 35) (.seq (.region [q 0 36 (mv 0), q 1 37 (mv 1), q 2 38 (mv 2), ⟨3, (some 39), none, (.call 237 [(T 36), (T 37), (T 38)]), [], []⟩])
 (.region [q 0 40 (mv 3), q 1 41 (.bin .sub .no (T 40) (I 1)), q 2 3 (mv 41)])) .skip))
 (.seq (.region [q 0 43 (mv 0), q 1 44 (mv 1), q 2 45 (mv 2), ⟨3, (some 46), none, (.call 238 [(T 43), (T 44), (T 45)]), [], []⟩, q 4 42 (mv 46), q 5 47 (.extract (T 42) 0), q 6 48 (.extract (T 42) 1), q 7 11 (mv 47), q 8 12 (mv 48)])
 (.seq (.seq (.region [q 0 49 (mv 12), q 1 50 (.bin .eql .no (T 49) (I 2))])
 (.cond (T 50) (.seq (.region [q 0 51 (mv 0), q 1 52 (mv 1), q 2 53 (mv 2), ⟨3, (some 54), none, (.call 239 [(T 51), (T 52), (T 53)]), [], []⟩])
 (.seq (.region [q 0 55 (mv 2), q 1 56 (.bin .sub .no (T 55) (I 1)), q 2 57 (mv 11), q 3 58 (mv 1), q 4 59 (.bin .sub .no (T 57) (T 58)), q 5 60 (.bin .sub .no (T 56) (T 59)), q 6 11 (mv 60)])
 (.region [q 0 12 (.move (I 1))]))) .skip))
 (.seq (.seq (.region [q 0 61 (mv 8), q 1 62 (mv 61), qg 2 63 62 true (mv 9), q 3 64 (.pick (T 62) (T 63) (.const (.bool false))), q 4 65 (mv 64), qg 5 66 65 true (mv 12), qg 6 67 65 true (.bin .eql .no (T 66) (I 1)), q 7 68 (.pick (T 65) (T 67) (.const (.bool false)))])
 (.cond (T 68) (.seq (.region [q 0 69 (mv 0), q 1 70 (mv 1), q 2 71 (mv 2), ⟨3, (some 72), none, (.call 240 [(T 69), (T 70), (T 71)]), [], []⟩])
 (.cond (T 72) .ret .skip)) .skip))
 (.seq (.seq (.draw [.one (qd 0 73 (mv 1) [1] []), .one (qd 1 74 (.bin .gtr .no (T 73) (I 0)) [73] []), .one (qd 2 75 (mv 74) [74] []), .one (⟨3, (some 76), (some (75, true)), (.q (mv 0)), [0, 75], []⟩), .one (⟨4, (some 77), (some (75, true)), (.q (mv 1)), [1, 75], []⟩), .one (⟨5, (some 78), (some (75, true)), (.q (.bin .sub .no (T 77) (I 1))), [77, 75], []⟩), .one (⟨6, (some 79), (some (75, true)), (.q (.iaddr (.sl 3 1) (T 76) (T 78))), [76, 78, 75], []⟩), .one (⟨7, (some 80), (some (75, true)), (.q (.load none (T 79))), [79, 75], []⟩), .one (⟨8, (some 81), (some (75, true)), (.q (mv 0)), [0, 75], []⟩), .one (⟨9, (some 82), (some (75, true)), (.q (mv 11)), [11, 75], []⟩), .one (⟨10, (some 83), (some (75, true)), (.q (.iaddr (.sl 3 1) (T 81) (T 82))), [81, 82, 75], []⟩), .one (⟨11, (some 84), (some (75, true)), (.q (.load none (T 83))), [83, 75], []⟩), .one (⟨12, (some 85), (some (75, true)), (.call 241 [(T 80), (T 84)]), [80, 84, 75], []⟩), .one (⟨13, (some 86), (some (75, true)), (.q (.un .not (T 85))), [85, 75], []⟩), .one (qd 14 87 (.pick (T 75) (T 86) (.const (.bool false))) [75, 86] [])])
 (.cond (T 87) (.seq (.region [q 0 88 (mv 0), q 1 89 (mv 1), q 2 90 (mv 2), q 3 91 (mv 11), ⟨4, (some 92), none, (.call 242 [(T 88), (T 89), (T 90), (T 91)]), [], []⟩, q 5 13 (mv 92)])
 (.seq (.region [q 0 93 (mv 13), q 1 1 (mv 93)])
 (.exit 1))) .skip))
 (.seq (.region [q 0 95 (mv 0), q 1 96 (mv 1), q 2 97 (mv 2), q 3 98 (mv 11), ⟨4, (some 99), none, (.call 243 [(T 95), (T 96), (T 97), (T 98)]), [], []⟩, q 5 94 (mv 99), q 6 100 (.extract (T 94) 0), q 7 101 (.extract (T 94) 1), q 8 14 (mv 100), q 9 15 (mv 101)])
 (.seq (.region [q 0 102 (mv 15), q 1 9 (mv 102)])
 (.seq (.region [q 0 103 (mv 14), q 1 104 (mv 1), q 2 105 (.bin .sub .no (T 103) (T 104)), q 3 106 (mv 2), q 4 107 (mv 14), q 5 108 (.bin .sub .no (T 106) (T 107)), q 6 16 (mv 105), q 7 17 (mv 108)])
 (.seq (.region [q 0 109 (mv 10), q 1 110 (.bin .quo .no (T 109) (I 8)), q 2 18 (mv 110)])
 (.seq (.region [q 0 111 (mv 16), q 1 112 (mv 17), q 2 113 (.bin .lss .no (T 111) (T 112))])
 (.cond (T 113) (.seq (.region [q 0 114 (mv 16), q 1 115 (mv 18), q 2 116 (.bin .geq .no (T 114) (T 115)), q 3 8 (mv 116)])
 (.seq (.region [q 0 117 (mv 0), q 1 118 (mv 1), q 2 119 (mv 14), q 3 120 (mv 3), ⟨4, (some 121), none, (.call 175 [(T 117), (T 118), (T 119), (T 120)]), [], []⟩])
 (.region [q 0 122 (mv 14), q 1 123 (.bin .add .no (T 122) (I 1)), q 2 1 (mv 123)]))) (.seq (.region [q 0 124 (mv 17), q 1 125 (mv 18), q 2 126 (.bin .geq .no (T 124) (T 125)), q 3 8 (mv 126)])
 (.seq (.region [q 0 127 (mv 0), q 1 128 (mv 14), q 2 129 (.bin .add .no (T 128) (I 1)), q 3 130 (mv 2), q 4 131 (mv 3), ⟨5, (some 132), none, (.call 175 [(T 127), (T 129), (T 130), (T 131)]), [], []⟩])
 (.region [q 0 133 (mv 14), q 1 2 (mv 133)])))))))))))))))))))))),
  134, []⟩
noncomputable def c176 : AFn := ⟨(.seq (.region [q 0 2 (.move (I 0))])
 (.seq (.cond (.const (.bool false)) (.seq (.region [q 0 3 (mv 0), q 1 4 (.conv (.int .u32) (T 3)), ⟨2, (some 5), none, (.call 244 [(T 4)]), [], []⟩, q 3 2 (mv 5)])
 .ret) .skip)
 (.seq (.region [q 0 6 (mv 0), ⟨1, (some 7), none, (.call 245 [(T 6)]), [], []⟩, q 2 2 (mv 7)])
 .ret))),
  8, [.tmp 2]⟩
noncomputable def c177 : AFn := ⟨(.seq (.region [⟨0, (some 3), none, (.n (.box 40 (T 0))), [], []⟩, ⟨1, (some 6), none, (.n (.alloc 71 [(.lit (bS [])), (.lit (.int .i64 (.ofNat 0))), (.sl 0 [] .full), (.sl 0 [] .full), (.sl 0 [] .full)])), [], []⟩, ⟨2, (some 7), none, (.n (.alloc 3 [(.lit (.int .i64 (.ofNat 0)))])), [], []⟩, ⟨3, (some 8), none, (.n (.alloc 155 [(.lit (.int .i64 (.ofNat 0))), (.lit (.int .i64 (.ofNat 0))), (.lit (bS []))])), [], []⟩, ⟨4, (some 9), none, (.n (.alloc 25 [(.lit (.int .i64 (.ofNat 0)))])), [], []⟩])
 (.seq (.seq (.region [q 0 13 (.load (some 3) (T 3)), ⟨1, (some 14), none, (.call 26 [(T 13)]), [], []⟩, q 2 15 (.un .not (T 14))])
 (.cond (T 15) (.seq (.region [q 0 16 (.build (.struct [(0, 1), (1, 1), (2, 1), (3, 1), (4, 1)]) [(.lit (bS [])), (.lit (.int .i64 (.ofNat 0))), (.sl 0 [] .full), (.sl 0 [] .full), (.sl 0 [] .full)] []), q 1 17 (.build (.struct [(0, 1), (1, 1), (2, 1)]) [(.lit (.int .i64 (.ofNat 0))), (.lit (.int .i64 (.ofNat 0))), (.lit (bS []))] []), ⟨2, none, none, (.e (.store 5 (T 6) (T 16))), [], []⟩, ⟨3, none, none, (.e (.store 1 (T 7) (I 0))), [], []⟩, ⟨4, none, none, (.e (.store 3 (T 8) (T 17))), [], []⟩, ⟨5, none, none, (.e (.store 1 (T 9) (I 2))), [], []⟩])
 .ret) .skip))
 (.seq (.seq (.region [q 0 19 (.load (some 3) (T 3)), q 1 20 (mv 1), ⟨2, (some 21), none, (.call 46 [(T 19), (T 20)]), [], []⟩, q 3 18 (mv 21), q 4 22 (.extract (T 18) 0), q 5 23 (.extract (T 18) 1), q 6 10 (mv 22), q 7 11 (mv 23)])
 (.seq (.region [q 0 24 (mv 11), q 1 25 (.un .not (T 24))])
 (.cond (T 25) (.seq (.region [q 0 26 (.build (.struct [(0, 1), (1, 1), (2, 1), (3, 1), (4, 1)]) [(.lit (bS [])), (.lit (.int .i64 (.ofNat 0))), (.sl 0 [] .full), (.sl 0 [] .full), (.sl 0 [] .full)] []), q 1 27 (.build (.struct [(0, 1), (1, 1), (2, 1)]) [(.lit (.int .i64 (.ofNat 0))), (.lit (.int .i64 (.ofNat 0))), (.lit (bS []))] []), ⟨2, none, none, (.e (.store 5 (T 6) (T 26))), [], []⟩, ⟨3, none, none, (.e (.store 1 (T 7) (I 0))), [], []⟩, ⟨4, none, none, (.e (.store 3 (T 8) (T 27))), [], []⟩, ⟨5, none, none, (.e (.store 1 (T 9) (I 9))), [], []⟩])
 .ret) .skip)))
 (.seq (.deferR [q 0 28 (.func (.func 246) [] [(T 6), (T 7), (T 8), (T 9)])] (T 28) [])
 (.seq (.region [q 0 29 (.load (some 3) (T 3)), ⟨1, (some 30), none, (.n (.alloc 3 [(.lit (.int .i64 (.ofNat 0)))])), [], []⟩, q 2 31 (.build (.struct [(0, 3), (3, 3), (6, 2), (8, 1), (9, 1), (10, 1), (11, 1), (12, 1)]) [(.sl 0 [] .full), (.lit (.int .i64 (.ofNat 0))), (.lit (.int .i64 (.ofNat 0))), (.lit (bS [])), (.sl 0 [] .full), (.lit (bS [])), (.lit (bS [])), (.sl 0 [] .full), (.lit (bS [])), (.lit (.pointer none)), (.lit (.map none)), (.lit (.map none)), (.sl 0 [] .full)] [(1, (T 29)), (4, (T 30))]), ⟨3, (some 32), none, (.n (.box 355 (T 31))), [], []⟩, q 4 12 (mv 32)])
 (.seq (.region [q 0 34 (mv 12), q 1 35 (mv 1), q 2 36 (mv 2), ⟨3, (some 37), none, (.call 247 [(T 34), (T 35), (T 36), (I 0), (.const (bS []))]), [], []⟩, q 4 33 (mv 37), q 5 38 (.extract (T 33) 0), q 6 39 (.extract (T 33) 1), ⟨7, none, none, (.e (.store 5 (T 6) (T 38))), [], []⟩, ⟨8, none, none, (.e (.store 1 (T 7) (T 39))), [], []⟩])
 (.seq (.draw [.one (qd 0 40 (.load (some 5) (T 6)) [6] []), .one (qd 1 41 (.load none (T 7)) [7] []), .one (q 2 42 (.build (.struct [(0, 1), (1, 1), (2, 1)]) [(.lit (.int .i64 (.ofNat 0))), (.lit (.int .i64 (.ofNat 0))), (.lit (bS []))] [])), .one (⟨3, none, none, (.e (.store 5 (T 6) (T 40))), [6, 40], [2, 1]⟩), .one (⟨4, none, none, (.e (.store 1 (T 7) (T 41))), [7, 41], [2]⟩), .one (⟨5, none, none, (.e (.store 3 (T 8) (T 42))), [8, 42], []⟩), .one (⟨6, none, none, (.e (.store 1 (T 9) (I 0))), [9], []⟩)])
 .ret))))))),
  43, [.cell (some 5) 6, .cell none 7, .cell (some 3) 8, .cell none 9]⟩
noncomputable def c178 : AFn := ⟨(.seq (.region [q 0 8 (.move (.const (.slice none 0 0)))])
 (.seq (.seq (.region [q 0 12 (mv 3), q 1 13 (.bin .eql .no (T 12) (I 0))])
 (.cond (T 13) (.seq (.region [q 0 8 (.move (.const (.slice none 0 0)))])
 .ret) .skip))
 (.seq (.seq (.region [q 0 14 (mv 1), q 1 15 (.bin .eql .no (T 14) (.const (bS [])))])
 (.cond (T 15) (.seq (.region [q 0 16 (mv 0), q 1 17 (mv 3), ⟨2, (some 18), none, (.call 248 [(T 16), (T 17)]), [], []⟩, q 3 8 (mv 18)])
 .ret) .skip))
 (.seq (.seq (.region [q 0 19 (mv 3), q 1 20 (.bin .lss .no (T 19) (I 0))])
 (.cond (T 20) (.region [q 0 21 (mv 0), q 1 22 (mv 1), ⟨2, (some 23), none, (.call 65 [(T 21), (T 22)]), [], []⟩, q 3 24 (.bin .add .no (T 23) (I 1)), q 4 3 (mv 24)]) .skip))
 (.seq (.region [q 0 25 (mv 3), q 1 26 (mv 0), q 2 27 (.len .str (T 26)), q 3 28 (.bin .add .no (T 27) (I 1)), q 4 29 (.min [(T 25), (T 28)]), q 5 3 (mv 29)])
 (.seq (.region [q 0 30 (mv 3), ⟨1, (some 31), none, (.n (.make 9 16 [(.lit (bS []))] (T 30) (T 30))), [], []⟩, q 2 9 (mv 31)])
 (.seq (.region [q 0 32 (mv 3), q 1 33 (.bin .sub .no (T 32) (I 1)), q 2 3 (mv 33)])
 (.seq (.region [q 0 10 (.move (I 0))])
 (.seq (.block 0 (.loop (.seq (.seq (.region [q 0 34 (mv 10), q 1 35 (mv 3), q 2 36 (.bin .lss .no (T 34) (T 35))])
 (.cond (T 36) .skip (.exit 0)))
 (.block 1 (.seq (.region [q 0 37 (mv 0), q 1 38 (mv 1), ⟨2, (some 39), none, (.call 108 [(T 37), (T 38)]), [], []⟩, q 3 11 (mv 39)])
 (.seq (.seq (.region [q 0 40 (mv 11), q 1 41 (.bin .lss .no (T 40) (I 0))])
 (.cond (T 41) (.exit 0) .skip))
 (.seq (.region [q 0 42 (mv 9), q 1 43 (mv 10), q 2 44 (mv 0), q 3 45 (mv 11), q 4 46 (mv 2), q 5 47 (.bin .add .no (T 45) (T 46)), q 6 48 (.slice .str (T 44) none (some (T 47)) none), q 7 49 (.iaddr (.sl 9 1) (T 42) (T 43)), ⟨8, none, none, (.e (.store 1 (T 49) (T 48))), [], []⟩])
 (.seq (.region [q 0 50 (mv 0), q 1 51 (mv 11), q 2 52 (mv 1), q 3 53 (.len .str (T 52)), q 4 54 (.bin .add .no (T 51) (T 53)), q 5 55 (.slice .str (T 50) (some (T 54)) none none), q 6 0 (mv 55)])
 (.region [q 0 56 (mv 10), q 1 57 (.bin .add .no (T 56) (I 1)), q 2 10 (mv 57)])))))))))
 (.seq (.region [q 0 58 (mv 9), q 1 59 (mv 10), q 2 60 (mv 0), q 3 61 (.iaddr (.sl 9 1) (T 58) (T 59)), ⟨4, none, none, (.e (.store 1 (T 61) (T 60))), [], []⟩])
 (.seq (.region [q 0 62 (mv 9), q 1 63 (mv 10), q 2 64 (.bin .add .no (T 63) (I 1)), q 3 65 (.slice (.sl 9 1) (T 62) none (some (T 64)) none), q 4 8 (mv 65)])
 .ret))))))))))),
  66, [.tmp 8]⟩
noncomputable def c179 : AFn := ⟨(.seq (.region [q 0 4 (.move (.const (bS []))), q 1 5 (.move (.const (bS []))), q 2 6 (.move (.const (.bool false)))])
 (.seq (.seq (.region [q 0 8 (mv 0), q 1 9 (mv 1), ⟨2, (some 10), none, (.call 187 [(T 8), (T 9)]), [], []⟩, q 3 7 (mv 10)])
 (.seq (.region [q 0 11 (mv 7), q 1 12 (.bin .geq .no (T 11) (I 0))])
 (.cond (T 12) (.seq (.draw [.one (qd 0 13 (mv 0) [0] []), .one (qd 1 14 (mv 7) [7] []), .one (qd 2 15 (.slice .str (T 13) none (some (T 14)) none) [13, 14] []), .one (qd 3 16 (mv 0) [0] []), .one (qd 4 17 (mv 7) [7] []), .one (qd 5 18 (mv 1) [1] []), .one (qd 6 19 (.len .str (T 18)) [18] []), .one (qd 7 20 (.bin .add .no (T 17) (T 19)) [17, 19] []), .one (qd 8 21 (.slice .str (T 16) (some (T 20)) none none) [16, 20] []), .one (qd 9 4 (mv 15) [15] []), .one (qd 10 5 (mv 21) [21] []), .one (q 11 6 (.move (.const (.bool true))))])
 .ret) .skip)))
 (.seq (.region [q 0 22 (mv 0), q 1 4 (mv 22), q 2 5 (.move (.const (bS []))), q 3 6 (.move (.const (.bool false)))])
 .ret))),
  23, [.tmp 4, .tmp 5, .tmp 6]⟩
noncomputable def c183 : AFn := ⟨(.seq (.region [q 0 4 (.move (.const (bS [])))])
 (.seq (.seq (.region [q 0 10 (mv 1), q 1 11 (.bin .eql .no (T 10) (I 10))])
 (.cond (T 11) (.seq (.seq (.region [q 0 12 (mv 0), q 1 13 (.bin .leq .no (I 0) (T 12)), q 2 14 (mv 13), qg 3 15 14 true (mv 0), qg 4 16 14 true (.bin .lss .no (T 15) (I 100)), q 5 17 (.pick (T 14) (T 16) (.const (.bool false)))])
 (.cond (T 17) (.seq (.region [q 0 18 (mv 0), ⟨1, (some 19), none, (.call 251 [(T 18)]), [], []⟩, q 2 4 (mv 19)])
 .ret) .skip))
 (.seq (.region [⟨0, (some 5), none, (.n (.alloc 360 [(.lit (.int .u8 (.ofNat 0))), (.lit (.int .u8 (.ofNat 0))), (.lit (.int .u8 (.ofNat 0))), (.lit (.int .u8 (.ofNat 0))), (.lit (.int .u8 (.ofNat 0))), (.lit (.int .u8 (.ofNat 0))), (.lit (.int .u8 (.ofNat 0))), (.lit (.int .u8 (.ofNat 0))), (.lit (.int .u8 (.ofNat 0))), (.lit (.int .u8 (.ofNat 0))), (.lit (.int .u8 (.ofNat 0))), (.lit (.int .u8 (.ofNat 0))), (.lit (.int .u8 (.ofNat 0))), (.lit (.int .u8 (.ofNat 0))), (.lit (.int .u8 (.ofNat 0))), (.lit (.int .u8 (.ofNat 0))), (.lit (.int .u8 (.ofNat 0))), (.lit (.int .u8 (.ofNat 0))), (.lit (.int .u8 (.ofNat 0))), (.lit (.int .u8 (.ofNat 0))), (.lit (.int .u8 (.ofNat 0))), (.lit (.int .u8 (.ofNat 0))), (.lit (.int .u8 (.ofNat 0))), (.lit (.int .u8 (.ofNat 0)))])), [], []⟩])
 (.seq (.region [q 0 20 (mv 0), q 1 21 (.conv (.int .u64) (T 20)), q 2 6 (mv 21)])
 (.seq (.seq (.region [q 0 22 (mv 0), q 1 23 (.bin .lss .no (T 22) (I 0))])
 (.cond (T 23) (.region [q 0 24 (mv 6), q 1 25 (.un .neg (T 24)), q 2 6 (mv 25)]) .skip))
 (.seq (.region [q 0 26 (mv 6), ⟨1, (some 27), none, (.call 252 [(T 26)]), [], []⟩, q 2 7 (mv 27)])
 (.seq (.region [q 0 28 (mv 7), q 1 29 (.bin .add .no (I 1) (T 28)), q 2 30 (.slice (.arr 24 5 1) (T 5) (some (I 1)) (some (T 29)) none), q 3 31 (mv 6), ⟨4, (some 32), none, (.call 253 [(T 30), (T 31)]), [], []⟩])
 (.seq (.seq (.region [q 0 33 (mv 0), q 1 34 (.bin .lss .no (T 33) (I 0))])
 (.cond (T 34) (.seq (.region [q 0 35 (.iaddr (.arr 24 5 1) (T 5) (I 0)), ⟨1, none, none, (.e (.store 1 (T 35) (.const (.int .u8 (.ofNat 45))))), [], []⟩])
 (.seq (.region [q 0 36 (mv 7), q 1 37 (.bin .add .no (I 1) (T 36)), q 2 38 (.slice (.arr 24 5 1) (T 5) none (some (T 37)) none), q 3 39 (.conv .bstr (T 38)), q 4 4 (mv 39)])
 .ret)) .skip))
 (.seq (.region [q 0 40 (mv 7), q 1 41 (.bin .add .no (I 1) (T 40)), q 2 42 (.slice (.arr 24 5 1) (T 5) (some (I 1)) (some (T 41)) none), q 3 43 (.conv .bstr (T 42)), q 4 4 (mv 43)])
 .ret)))))))) .skip))
 (.seq (.region [q 0 45 (mv 0), q 1 46 (.conv (.int .u64) (T 45)), q 2 47 (mv 1), q 3 48 (mv 0), q 4 49 (.bin .lss .no (T 48) (I 0)), ⟨5, (some 50), none, (.call 254 [(.const (.slice none 0 0)), (T 46), (T 47), (T 49), (.const (.bool false))]), [], []⟩, q 6 44 (mv 50), q 7 51 (.extract (T 44) 0), q 8 52 (.extract (T 44) 1), q 9 8 (mv 51), q 10 9 (mv 52)])
 (.seq (.region [q 0 53 (mv 9), q 1 4 (mv 53)])
 .ret)))),
  54, [.tmp 4]⟩
noncomputable def c184 : AFn := ⟨(.seq (.region [⟨0, (some 2), none, (.n (.box 71 (T 0))), [], []⟩, ⟨1, (some 3), none, (.n (.box 3 (T 1))), [], []⟩, q 2 4 (.move (.const .nilFunc))])
 (.seq (.region [q 0 5 (.func (.func 255) [] [(T 3), (T 2)]), q 1 4 (mv 5)])
 .ret)),
  6, [.tmp 4]⟩
noncomputable def c185 : AFn := ⟨(.seq (.region [⟨0, (some 1), none, (.n (.box 71 (T 0))), [], []⟩, q 1 2 (.move (.const (.bool false)))])
 (.seq (.region [q 0 3 (.move (.func 256))])
 (.seq (.region [q 0 4 (.faddr 0 (T 1)), q 1 5 (.load none (T 4)), ⟨2, (some 6), none, (.call 111 [(T 5)]), [], []⟩, q 3 7 (mv 6), qg 4 8 7 true (.faddr 1 (T 1)), qg 5 9 7 true (.load none (T 8)), qg 6 10 7 true (.bin .geq .no (T 9) (I 0)), q 7 11 (.pick (T 7) (T 10) (.const (.bool false))), q 8 12 (mv 11), qg 9 13 12 true (.faddr 1 (T 1)), qg 10 14 12 true (.load none (T 13)), qg 11 15 12 true (.bin .lss .no (T 14) (I 34359738368)), q 12 16 (.pick (T 12) (T 15) (.const (.bool false))), q 13 17 (mv 16), qg 14 18 17 true (.faddr 2 (T 1)), qg 15 19 17 true (.load none (T 18)), qg 16 20 17 true (.len .sl (T 19)), qg 17 21 17 true (.bin .leq .no (T 20) (I 1048576)), q 18 22 (.pick (T 17) (T 21) (.const (.bool false))), q 19 23 (mv 22), qg 20 24 23 true (.faddr 3 (T 1)), qg 21 25 23 true (.load none (T 24)), qg 22 26 23 true (.len .sl (T 25)), qg 23 27 23 true (.bin .leq .no (T 26) (I 100)), q 24 28 (.pick (T 23) (T 27) (.const (.bool false))), q 25 29 (mv 28), qg 26 30 29 true (.faddr 3 (T 1)), qg 27 31 29 true (.load none (T 30)), qg 28 32 29 true (mv 3), ⟨29, (some 33), (some (29, true)), (.call 257 [(T 31), (T 32)]), [], []⟩, qg 30 34 29 true (.un .not (T 33)), q 31 35 (.pick (T 29) (T 34) (.const (.bool false))), q 32 2 (mv 35)])
 .ret))),
  36, [.tmp 2]⟩
noncomputable def c186 : AFn := ⟨(.seq (.region [⟨0, (some 3), none, (.n (.box 220 (T 0))), [], []⟩])
 (.scope (.seq (.seq (.draw [.one (qd 0 11 (.load none (T 3)) [3] []), .one (qd 1 12 (.load none (T 1)) [1] []), .one (qd 2 13 (.load (some 5) (T 2)) [2] []), .one (⟨3, (some 14), none, (.call 37 [(T 13)]), [13], [1, 0]⟩), .one (⟨4, (some 15), none, (.callv (T 11) [(T 12), (T 14)]), [11, 12, 14], []⟩), .one (qd 5 16 (.un .not (T 15)) [15] [])])
 (.cond (T 16) .ret .skip))
 (.seq (.region [⟨0, (some 17), none, (.n (.makeMap .str)), [], []⟩, q 1 4 (mv 17)])
 (.seq (.label 0)
 (.seq (.region [q 0 18 (.faddr 4 (T 2)), q 1 19 (.load none (T 18)), q 2 20 (.len .sl (T 19)), q 3 21 (.move (I 0))])
 (.block 0 (.loop (.seq (.region [q 0 22 (.bin .lss .no (T 21) (T 20))])
 (.seq (.cond (T 22) .skip (.exit 0))
 (.seq (.block 1 (.seq (.region [q 0 23 (.iaddr (.sl 71 5) (T 19) (T 21)), q 1 24 (.load (some 5) (T 23)), ⟨2, (some 6), none, (.n (.alloc 71 [(.lit (bS [])), (.lit (.int .i64 (.ofNat 0))), (.sl 0 [] .full), (.sl 0 [] .full), (.sl 0 [] .full)])), [], []⟩, ⟨3, none, none, (.e (.store 5 (T 6) (T 24))), [], []⟩])
 (.seq (.region [q 0 25 (.faddr 0 (T 6)), q 1 26 (.load none (T 25)), q 2 7 (mv 26)])
 (.seq (.seq (.region [q 0 27 (mv 4), q 1 28 (.faddr 0 (T 6)), q 2 29 (.load none (T 28)), q 3 30 (.lookup .str (.lit (.int .i64 (.ofNat 0))) (T 27) (T 29) false), q 4 8 (mv 30)])
 (.seq (.region [q 0 31 (mv 8), q 1 32 (.bin .gtr .no (T 31) (I 0))])
 (.cond (T 32) (.region [q 0 33 (mv 7), q 1 34 (mv 8), ⟨2, (some 35), none, (.call 63 [(T 34)]), [], []⟩, q 3 36 (.bin .add .no (.const (bS [58])) (T 35)), q 4 37 (.bin .add .no (T 33) (T 36)), q 5 7 (mv 37)]) .skip)))
 (.seq (.seq (.region [q 0 38 (mv 4), q 1 39 (.faddr 0 (T 6)), q 2 40 (.load none (T 39)), q 3 41 (.lookup .str (.lit (.int .i64 (.ofNat 0))) (T 38) (T 40) false), q 4 42 (.bin .add .no (T 41) (I 1)), ⟨5, none, none, (.e (.mapPut .str (T 38) (T 40) (T 42))), [], []⟩])
 (.seq (.region [q 0 43 (.load none (T 1)), q 1 44 (.bin .neq .no (T 43) (.const (bS [])))])
 (.cond (T 44) (.region [q 0 45 (.load none (T 1)), q 1 46 (.bin .add .no (T 45) (.const (bS [46]))), q 2 47 (mv 7), q 3 48 (.bin .add .no (T 46) (T 47)), q 4 7 (mv 48)]) .skip)))
 (.seq (.region [q 0 49 (.load (some 5) (T 6)), q 1 50 (mv 7), ⟨2, (some 51), none, (.call 105 [(T 49), (T 50)]), [], []⟩])
 (.block 2 (.rangeF 60 (T 51) [52, 53] (.seq (.region [q 0 9 (mv 52)])
 (.region [⟨0, (some 10), none, (.n (.alloc 71 [(.lit (bS [])), (.lit (.int .i64 (.ofNat 0))), (.sl 0 [] .full), (.sl 0 [] .full), (.sl 0 [] .full)])), [], []⟩, ⟨1, none, none, (.e (.store 5 (T 10) (T 53))), [], []⟩])) (.block 3 (.seq (.region [q 0 54 (.load none (T 3)), q 1 55 (mv 9), q 2 56 (.load (some 5) (T 10)), ⟨3, (some 57), none, (.callv (T 54) [(T 55), (T 56)]), [], []⟩, q 4 58 (.un .not (T 57))])
 (.cond (T 58) (.exit 0) .skip)))))))))))
 (.region [q 0 59 (.bin .add .no (T 21) (I 1)), q 1 21 (mv 59)])))))))))))),
  60, []⟩
noncomputable def c187 : AFn := ⟨(.seq (.region [q 0 4 (.move (I 0))])
 (.seq (.region [q 0 14 (mv 1), q 1 15 (.len .str (T 14)), q 2 5 (mv 15)])
 (.seq (.block 0 (.seq (.region [q 0 17 (mv 5), q 1 18 (.bin .eql .no (T 17) (I 0)), q 2 19 (mv 18), qg 3 20 19 false (mv 1), qg 4 21 19 false (mv 0), qg 5 22 19 false (.bin .eql .no (T 20) (T 21)), q 6 23 (.pick (T 19) (.const (.bool true)) (T 22)), q 7 16 (mv 23)])
 (.cond (T 16) (.seq (.region [q 0 4 (.move (I 0))])
 .ret) (.seq (.region [q 0 25 (mv 5), q 1 26 (.bin .eql .no (T 25) (I 1)), q 2 24 (mv 26)])
 (.cond (T 24) (.seq (.region [q 0 27 (mv 0), q 1 28 (mv 1), q 2 29 (.index .str none (T 28) (I 0)), ⟨3, (some 30), none, (.call 258 [(T 27), (T 29)]), [], []⟩, q 4 4 (mv 30)])
 .ret) (.seq (.region [q 0 32 (mv 5), q 1 33 (mv 0), q 2 34 (.len .str (T 33)), q 3 35 (.bin .geq .no (T 32) (T 34)), q 4 31 (mv 35)])
 (.cond (T 31) (.seq (.region [q 0 4 (.move (.const (.int .i64 (.negSucc 0))))])
 .ret) (.seq (.region [q 0 37 (mv 5), q 1 38 (.load none (.global 0)), q 2 39 (.bin .leq .no (T 37) (T 38)), q 3 40 (mv 39), qg 4 41 40 true (mv 0), qg 5 42 40 true (.len .str (T 41)), qg 6 43 40 true (.bin .leq .no (T 42) (I 64)), q 7 44 (.pick (T 40) (T 43) (.const (.bool false))), q 8 36 (mv 44)])
 (.cond (T 36) (.seq (.region [q 0 45 (mv 0), q 1 46 (mv 1), ⟨2, (some 47), none, (.call 259 [(T 45), (T 46)]), [], []⟩, q 3 4 (mv 47)])
 .ret) .skip)))))))))
 (.seq (.region [q 0 48 (mv 1), q 1 49 (.index .str none (T 48) (I 0)), q 2 6 (mv 49)])
 (.seq (.region [q 0 50 (mv 1), q 1 51 (.index .str none (T 50) (I 1)), q 2 7 (mv 51)])
 (.seq (.region [q 0 8 (.move (I 0))])
 (.seq (.region [q 0 52 (mv 0), q 1 53 (.len .str (T 52)), q 2 54 (mv 5), q 3 55 (.bin .sub .no (T 53) (T 54)), q 4 56 (.bin .add .no (T 55) (I 1)), q 5 9 (mv 56)])
 (.seq (.region [q 0 10 (.move (I 0))])
 (.seq (.block 1 (.loop (.seq (.seq (.region [q 0 57 (mv 8), q 1 58 (mv 9), q 2 59 (.bin .lss .no (T 57) (T 58))])
 (.cond (T 59) .skip (.exit 1)))
 (.block 2 (.seq (.seq (.region [q 0 60 (mv 0), q 1 61 (mv 8), q 2 62 (.index .str none (T 60) (T 61)), q 3 63 (mv 6), q 4 64 (.bin .neq .no (T 62) (T 63))])
 (.cond (T 64) (.seq (.region [q 0 65 (mv 0), q 1 66 (mv 8), q 2 67 (.bin .add .no (T 66) (I 1)), q 3 68 (mv 9), q 4 69 (.slice .str (T 65) (some (T 67)) (some (T 68)) none), q 5 70 (mv 6), ⟨6, (some 71), none, (.call 258 [(T 69), (T 70)]), [], []⟩, q 7 11 (mv 71)])
 (.seq (.seq (.region [q 0 72 (mv 11), q 1 73 (.bin .lss .no (T 72) (I 0))])
 (.cond (T 73) (.seq (.region [q 0 4 (.move (.const (.int .i64 (.negSucc 0))))])
 .ret) .skip))
 (.region [q 0 74 (mv 8), q 1 75 (mv 11), q 2 76 (.bin .add .no (T 75) (I 1)), q 3 77 (.bin .add .no (T 74) (T 76)), q 4 8 (mv 77)]))) .skip))
 (.seq (.seq (.region [q 0 78 (mv 0), q 1 79 (mv 8), q 2 80 (.bin .add .no (T 79) (I 1)), q 3 81 (.index .str none (T 78) (T 80)), q 4 82 (mv 7), q 5 83 (.bin .eql .no (T 81) (T 82)), q 6 84 (mv 83), qg 7 85 84 true (mv 0), qg 8 86 84 true (mv 8), qg 9 87 84 true (mv 8), qg 10 88 84 true (mv 5), qg 11 89 84 true (.bin .add .no (T 87) (T 88)), qg 12 90 84 true (.slice .str (T 85) (some (T 86)) (some (T 89)) none), qg 13 91 84 true (mv 1), qg 14 92 84 true (.bin .eql .no (T 90) (T 91)), q 15 93 (.pick (T 84) (T 92) (.const (.bool false)))])
 (.cond (T 93) (.seq (.region [q 0 94 (mv 8), q 1 4 (mv 94)])
 .ret) .skip))
 (.seq (.region [q 0 95 (mv 8), q 1 96 (.bin .add .no (T 95) (I 1)), q 2 8 (mv 96)])
 (.seq (.region [q 0 97 (mv 10), q 1 98 (.bin .add .no (T 97) (I 1)), q 2 10 (mv 98)])
 (.seq (.region [q 0 99 (mv 5), q 1 100 (.load none (.global 0)), q 2 101 (.bin .leq .no (T 99) (T 100)), q 3 102 (mv 101), qg 4 103 102 true (mv 10), qg 5 104 102 true (mv 8), ⟨6, (some 105), (some (102, true)), (.call 260 [(T 104)]), [], []⟩, qg 7 106 102 true (.bin .gtr .no (T 103) (T 105)), q 8 107 (.pick (T 102) (T 106) (.const (.bool false)))])
 (.cond (T 107) (.seq (.region [q 0 108 (mv 0), q 1 109 (mv 8), q 2 110 (.slice .str (T 108) (some (T 109)) none none), q 3 111 (mv 1), ⟨4, (some 112), none, (.call 259 [(T 110), (T 111)]), [], []⟩, q 5 12 (mv 112)])
 (.seq (.seq (.region [q 0 113 (mv 12), q 1 114 (.bin .geq .no (T 113) (I 0))])
 (.cond (T 114) (.seq (.region [q 0 115 (mv 12), q 1 116 (mv 8), q 2 117 (.bin .add .no (T 115) (T 116)), q 3 4 (mv 117)])
 .ret) .skip))
 (.seq (.region [q 0 4 (.move (.const (.int .i64 (.negSucc 0))))])
 .ret))) (.seq (.region [q 0 118 (mv 5), q 1 119 (.load none (.global 0)), q 2 120 (.bin .gtr .no (T 118) (T 119)), q 3 121 (mv 120), qg 4 122 121 true (mv 10), qg 5 123 121 true (mv 8), qg 6 124 121 true (.bin .shr .no (T 123) (.const (.int .u64 (.ofNat 4)))), qg 7 125 121 true (.bin .add .no (I 4) (T 124)), qg 8 126 121 true (.bin .geq .no (T 122) (T 125)), q 9 127 (.pick (T 121) (T 126) (.const (.bool false))), q 10 128 (mv 127), qg 11 129 128 true (mv 8), qg 12 130 128 true (mv 9), qg 13 131 128 true (.bin .lss .no (T 129) (T 130)), q 14 132 (.pick (T 128) (T 131) (.const (.bool false)))])
 (.cond (T 132) (.seq (.region [q 0 133 (mv 0), q 1 134 (mv 8), q 2 135 (.slice .str (T 133) (some (T 134)) none none), q 3 136 (mv 1), ⟨4, (some 137), none, (.call 261 [(T 135), (T 136)]), [], []⟩, q 5 13 (mv 137)])
 (.seq (.seq (.region [q 0 138 (mv 13), q 1 139 (.bin .lss .no (T 138) (I 0))])
 (.cond (T 139) (.seq (.region [q 0 4 (.move (.const (.int .i64 (.negSucc 0))))])
 .ret) .skip))
 (.seq (.region [q 0 140 (mv 8), q 1 141 (mv 13), q 2 142 (.bin .add .no (T 140) (T 141)), q 3 4 (mv 142)])
 .ret))) .skip))))))))))))
 (.seq (.region [q 0 4 (.move (.const (.int .i64 (.negSucc 0))))])
 .ret)))))))))),
  143, [.tmp 4]⟩
noncomputable def c188 : AFn := ⟨(.seq (.region [q 0 2 (.move (.const (.bool false)))])
 (.seq (.region [q 0 3 (mv 0), ⟨1, (some 4), none, (.call 189 [(T 3)]), [], []⟩, q 2 5 (.un .not (T 4)), q 3 6 (mv 5), qg 4 7 6 true (mv 0), ⟨5, (some 8), (some (6, true)), (.call 190 [(T 7)]), [], []⟩, qg 6 9 6 true (.un .not (T 8)), q 7 10 (.pick (T 6) (T 9) (.const (.bool false))), q 8 11 (mv 10), qg 9 12 11 true (mv 0), qg 10 13 11 true (.bin .neq .no (T 12) (.const (.int .u8 (.ofNat 95)))), q 11 14 (.pick (T 11) (T 13) (.const (.bool false))), q 12 2 (mv 14)])
 .ret)),
  15, [.tmp 2]⟩
noncomputable def c189 : AFn := ⟨(.seq (.region [q 0 2 (.move (.const (.bool false)))])
 (.seq (.region [q 0 3 (mv 0), q 1 4 (.bin .geq .no (T 3) (.const (.int .u8 (.ofNat 65)))), q 2 5 (mv 4), qg 3 6 5 true (mv 0), qg 4 7 5 true (.bin .leq .no (T 6) (.const (.int .u8 (.ofNat 90)))), q 5 8 (.pick (T 5) (T 7) (.const (.bool false))), q 6 9 (mv 8), qg 7 10 9 false (mv 0), qg 8 11 9 false (.bin .geq .no (T 10) (.const (.int .u8 (.ofNat 97)))), qg 9 12 9 false (mv 11), qg 10 13 12 true (mv 0), qg 11 14 12 true (.bin .leq .no (T 13) (.const (.int .u8 (.ofNat 122)))), qg 12 15 9 false (.pick (T 12) (T 14) (.const (.bool false))), q 13 16 (.pick (T 9) (.const (.bool true)) (T 15)), q 14 2 (mv 16)])
 .ret)),
  17, [.tmp 2]⟩
noncomputable def c191 : AFn := ⟨(.seq (.region [q 0 2 (.move (.const (.bool false)))])
 (.seq (.region [q 0 3 (mv 0), ⟨1, (some 4), none, (.call 262 [(T 3), (.const (.bool false))]), [], []⟩, q 2 5 (.un .not (T 4)), q 3 2 (mv 5)])
 .ret)),
  6, [.tmp 2]⟩
noncomputable def c192 : AFn := ⟨(.seq (.region [q 0 4 (.move (.const (.bool false)))])
 (.seq (.region [q 0 5 (mv 0), q 1 6 (mv 1), ⟨2, (some 7), none, (.call 263 [(T 5), (T 6)]), [], []⟩, q 3 8 (.bin .geq .no (T 7) (I 0)), q 4 4 (mv 8)])
 .ret)),
  9, [.tmp 4]⟩
noncomputable def c193 : AFn := ⟨(.seq (.region [⟨0, (some 3), none, (.n (.box 86 (T 1))), [], []⟩])
 (.seq (.region [q 0 8 (mv 0), q 1 9 (.faddr 0 (T 3)), q 2 10 (.load none (T 9)), ⟨3, (some 11), none, (.call 111 [(T 10)]), [], []⟩, ⟨4, (some 12), none, (.call 110 [(T 8), (T 11), (I 1)]), [], []⟩])
 (.seq (.draw [.one (qd 0 14 (mv 0) [0] []), .one (qd 3 17 (.faddr 0 (T 3)) [3] []), .one (qd 4 18 (.load none (T 17)) [17] []), .one (⟨1, (some 15), none, (.call 264 [(T 14)]), [14], [4, 3]⟩), .one (qd 2 16 (.build (.struct [(0, 1), (1, 1)]) [(.lit (bS [])), (.sl 0 [] .full)] [(1, (T 15))]) [15] []), .one (⟨5, (some 19), none, (.call 72 [(T 16), (T 18)]), [16, 18], []⟩), .one (qd 6 13 (mv 19) [19] []), .one (qd 7 20 (.extract (T 13) 0) [13] []), .one (qd 8 21 (.extract (T 13) 1) [13] []), .one (qd 9 4 (mv 20) [20] []), .one (qd 10 5 (mv 21) [21] [])])
 (.seq (.region [q 0 22 (mv 0), q 1 23 (mv 5), q 2 24 (.un .not (T 23)), ⟨3, (some 25), none, (.call 110 [(T 22), (T 24), (I 2)]), [], []⟩])
 (.seq (.draw [.one (qd 1 28 (.faddr 1 (T 3)) [3] []), .one (qd 2 29 (.load none (T 28)) [28] []), .one (⟨7, (some 6), none, (.n (.alloc 373 [(.lit .nilFunc), (.lit .nilFunc)])), [], []⟩), .one (⟨0, (some 27), none, (.call 265 []), [], [7, 2, 1]⟩), .one (qd 3 30 (.lookup (.int .i64) (.agg [(.lit .nilFunc), (.lit .nilFunc)]) (T 27) (T 29) true) [27, 29] []), .one (qd 4 26 (mv 30) [30] []), .one (qd 5 31 (.extract (T 26) 0) [26] []), .one (qd 6 32 (.extract (T 26) 1) [26] []), .one (⟨8, none, none, (.e (.store 2 (T 6) (T 31))), [6, 31], [6]⟩), .one (qd 9 5 (mv 32) [32] [])])
 (.seq (.region [q 0 33 (mv 0), q 1 34 (mv 5), ⟨2, (some 35), none, (.call 110 [(T 33), (T 34), (I 4)]), [], []⟩])
 (.seq (.region [q 0 36 (.load (some 15) (T 3)), ⟨1, (some 7), none, (.n (.alloc 86 [(.lit (bS [])), (.lit (.int .i64 (.ofNat 0))), (.lit (.int .i64 (.ofNat 0))), (.lit (.bool false)), (.lit (.bool false)), (.lit (.int .i64 (.ofNat 0))), (.lit (.int .i64 (.ofNat 0))), (.lit (.int .i64 (.ofNat 0))), (.sl 0 [] .full), (.lit (bS [])), (.lit (bS [])), (.lit (bS [])), (.sl 0 [] .full), (.lit (.int .i64 (.ofNat 0))), (.lit (.int .i64 (.ofNat 0)))])), [], []⟩, ⟨2, none, none, (.e (.store 15 (T 7) (T 36))), [], []⟩])
 (.seq (.region [q 0 37 (.faddr 0 (T 6)), q 1 38 (.load none (T 37)), ⟨2, (some 39), none, (.callv (T 38) [(T 7)]), [], []⟩])
 (.seq (.region [q 0 40 (mv 0), q 1 41 (.load (some 15) (T 7)), q 2 42 (.faddr 0 (T 3)), q 3 43 (.load none (T 42)), q 4 44 (.faddr 1 (T 3)), q 5 45 (.load none (T 44)), q 6 46 (.build (.struct [(0, 1), (1, 1), (2, 1), (3, 1), (4, 1), (5, 1), (6, 1), (7, 2), (9, 1), (10, 1), (11, 1), (12, 1), (13, 1), (14, 1)]) [(.lit (bS [])), (.lit (.int .i64 (.ofNat 0))), (.lit (.int .i64 (.ofNat 0))), (.lit (.bool false)), (.lit (.bool false)), (.lit (.int .i64 (.ofNat 0))), (.lit (.int .i64 (.ofNat 0))), (.lit (.int .i64 (.ofNat 0))), (.sl 0 [] .full), (.lit (bS [])), (.lit (bS [])), (.lit (bS [])), (.sl 0 [] .full), (.lit (.int .i64 (.ofNat 0))), (.lit (.int .i64 (.ofNat 0)))] [(0, (T 43)), (1, (T 45))]), ⟨7, (some 47), none, (.call 266 [(T 41), (T 46)]), [], []⟩, ⟨8, (some 48), none, (.call 110 [(T 40), (T 47), (I 5)]), [], []⟩])
 (.region [q 0 49 (.faddr 1 (T 6)), q 1 50 (.load none (T 49)), q 2 51 (mv 0), q 3 52 (.load (some 15) (T 3)), ⟨4, (some 53), none, (.callv (T 50) [(T 51), (T 52)]), [], []⟩])))))))))),
  54, []⟩
noncomputable def c194 : AFn := ⟨(.seq (.region [⟨0, (some 1), none, (.n (.box 89 (T 0))), [], []⟩, q 1 2 (.move (.const .nilFunc))])
 (.seq (.region [⟨0, (some 3), none, (.n (.alloc 111 [(.sl 0 [] .full)])), [], []⟩])
 (.seq (.seq (.region [q 0 8 (.faddr 1 (T 1)), q 1 9 (.load none (T 8)), q 2 10 (.len .sl (T 9)), q 3 11 (.move (I 0))])
 (.block 0 (.loop (.seq (.region [q 0 12 (.bin .lss .no (T 11) (T 10))])
 (.seq (.cond (T 12) .skip (.exit 0))
 (.seq (.block 1 (.seq (.region [q 0 13 (.iaddr (.sl 86 15) (T 9) (T 11)), q 1 14 (.load (some 15) (T 13)), ⟨2, (some 5), none, (.n (.alloc 86 [(.lit (bS [])), (.lit (.int .i64 (.ofNat 0))), (.lit (.int .i64 (.ofNat 0))), (.lit (.bool false)), (.lit (.bool false)), (.lit (.int .i64 (.ofNat 0))), (.lit (.int .i64 (.ofNat 0))), (.lit (.int .i64 (.ofNat 0))), (.sl 0 [] .full), (.lit (bS [])), (.lit (bS [])), (.lit (bS [])), (.sl 0 [] .full), (.lit (.int .i64 (.ofNat 0))), (.lit (.int .i64 (.ofNat 0)))])), [], []⟩, ⟨3, none, none, (.e (.store 15 (T 5) (T 14))), [], []⟩])
 (.seq (.region [q 0 15 (.faddr 1 (T 5)), q 1 16 (.load none (T 15))])
 (.block 2 (.seq (.seq (.region [q 0 18 (.bin .eql .no (T 16) (I 7)), q 1 17 (mv 18)])
 (.cond (T 17) .skip (.seq (.region [q 0 19 (.bin .eql .no (T 16) (I 8)), q 1 17 (mv 19)])
 (.cond (T 17) .skip (.region [q 0 20 (.bin .eql .no (T 16) (I 12)), q 1 17 (mv 20)])))))
 (.cond (T 17) (.region [q 0 21 (.load none (T 3)), q 1 22 (.faddr 9 (T 5)), q 2 23 (.load none (T 22)), q 3 24 (.bslice 1 1 [(0, (T 23))]), ⟨4, (some 25), none, (.e (.append 9 1 16 (T 21) (T 24))), [], []⟩, ⟨5, none, none, (.e (.store 1 (T 3) (T 25))), [], []⟩]) (.seq (.region [q 0 27 (.bin .eql .no (T 16) (I 9)), q 1 26 (mv 27)])
 (.cond (T 26) (.seq (.region [q 0 28 (.faddr 12 (T 5)), q 1 29 (.load none (T 28)), q 2 30 (.len .sl (T 29)), q 3 31 (.move (I 0))])
 (.block 3 (.loop (.seq (.region [q 0 32 (.bin .lss .no (T 31) (T 30))])
 (.seq (.cond (T 32) .skip (.exit 3))
 (.seq (.block 4 (.seq (.region [q 0 33 (.iaddr (.sl 254 3) (T 29) (T 31)), q 1 34 (.load (some 3) (T 33)), ⟨2, (some 7), none, (.n (.alloc 254 [(.lit (.int .i64 (.ofNat 0))), (.lit (.int .i64 (.ofNat 0))), (.lit (bS []))])), [], []⟩, ⟨3, none, none, (.e (.store 3 (T 7) (T 34))), [], []⟩])
 (.region [q 0 35 (.load none (T 3)), q 1 36 (.faddr 2 (T 7)), q 2 37 (.load none (T 36)), q 3 38 (.bslice 1 1 [(0, (T 37))]), ⟨4, (some 39), none, (.e (.append 9 1 16 (T 35) (T 38))), [], []⟩, ⟨5, none, none, (.e (.store 1 (T 3) (T 39))), [], []⟩])))
 (.region [q 0 40 (.bin .add .no (T 31) (I 1)), q 1 31 (mv 40)]))))))) .skip))))))))
 (.region [q 0 41 (.bin .add .no (T 11) (I 1)), q 1 11 (mv 41)])))))))
 (.seq (.region [q 0 42 (.func (.func 267) [] [(T 3)]), q 1 2 (mv 42)])
 .ret)))),
  43, [.tmp 2]⟩
noncomputable def c195 : AFn := ⟨(.seq (.region [q 0 4 (.move (I 0))])
 (.seq (.seq (.region [q 0 6 (mv 0), q 1 7 (.len .sl (T 6)), q 2 8 (.move (I 0))])
 (.block 0 (.loop (.seq (.region [q 0 9 (.bin .lss .no (T 8) (T 7))])
 (.seq (.cond (T 9) .skip (.exit 0))
 (.seq (.block 1 (.seq (.region [q 0 10 (mv 8), q 1 5 (mv 10)])
 (.seq (.region [q 0 11 (mv 1), q 1 12 (mv 0), q 2 13 (mv 5), q 3 14 (.iaddr (.sl 86 15) (T 12) (T 13)), q 4 15 (.load (some 15) (T 14)), ⟨5, (some 16), none, (.callv (T 11) [(T 15)]), [], []⟩])
 (.cond (T 16) (.seq (.region [q 0 17 (mv 5), q 1 4 (mv 17)])
 .ret) .skip))))
 (.region [q 0 18 (.bin .add .no (T 8) (I 1)), q 1 8 (mv 18)])))))))
 (.seq (.region [q 0 4 (.move (.const (.int .i64 (.negSucc 0))))])
 .ret))),
  19, [.tmp 4]⟩
noncomputable def c198 : AFn := ⟨(.seq (.region [q 0 4 (.move (.const (.slice none 0 0)))])
 (.seq (.seq (.region [q 0 7 (mv 1), q 1 8 (.len .sl (T 7)), q 2 9 (.move (I 0))])
 (.block 0 (.loop (.seq (.region [q 0 10 (.bin .lss .no (T 9) (T 8))])
 (.seq (.cond (T 10) .skip (.exit 0))
 (.seq (.block 1 (.seq (.region [q 0 11 (.iaddr (.sl 3 1) (T 7) (T 9)), q 1 12 (.load none (T 11)), q 2 6 (mv 12)])
 (.seq (.region [q 0 13 (mv 0), q 1 14 (mv 6), ⟨2, (some 15), none, (.call 270 [(T 13), (T 14)]), [], []⟩, q 3 16 (.un .not (T 15))])
 (.cond (T 16) (.region [q 0 17 (mv 0), q 1 18 (mv 6), q 2 19 (.bslice 1 1 [(0, (T 18))]), ⟨3, (some 20), none, (.e (.append 3 1 8 (T 17) (T 19))), [], []⟩, q 4 0 (mv 20)]) .skip))))
 (.region [q 0 21 (.bin .add .no (T 9) (I 1)), q 1 9 (mv 21)])))))))
 (.seq (.region [q 0 22 (mv 0), q 1 4 (mv 22)])
 .ret))),
  23, [.tmp 4]⟩
noncomputable def c200 : AFn := ⟨(.seq (.region [⟨0, (some 1), none, (.n (.box 86 (T 0))), [], []⟩, q 1 2 (.move (.const (.bool false)))])
 (.seq (.region [q 0 3 (.load (some 15) (T 1)), ⟨1, (some 4), none, (.call 127 [(T 3)]), [], []⟩, q 2 5 (.un .not (T 4)), q 3 2 (mv 5)])
 .ret)),
  6, [.tmp 2]⟩
noncomputable def c201 : AFn := ⟨(.seq (.region [q 0 6 (.move (.const (.bool false)))])
 (.seq (.seq (.region [q 0 10 (mv 0), q 1 11 (.len .sl (T 10)), q 2 12 (mv 1), q 3 13 (.len .sl (T 12)), q 4 14 (.bin .neq .no (T 11) (T 13))])
 (.cond (T 14) (.seq (.region [q 0 6 (.move (.const (.bool false)))])
 .ret) .skip))
 (.seq (.seq (.region [q 0 15 (mv 0), q 1 16 (.len .sl (T 15)), q 2 17 (.move (I 0))])
 (.block 0 (.loop (.seq (.region [q 0 18 (.bin .lss .no (T 17) (T 16))])
 (.seq (.cond (T 18) .skip (.exit 0))
 (.seq (.block 1 (.seq (.region [q 0 19 (mv 17), q 1 20 (.iaddr (.sl 86 15) (T 15) (T 17)), q 2 21 (.load (some 15) (T 20)), ⟨3, (some 8), none, (.n (.alloc 86 [(.lit (bS [])), (.lit (.int .i64 (.ofNat 0))), (.lit (.int .i64 (.ofNat 0))), (.lit (.bool false)), (.lit (.bool false)), (.lit (.int .i64 (.ofNat 0))), (.lit (.int .i64 (.ofNat 0))), (.lit (.int .i64 (.ofNat 0))), (.sl 0 [] .full), (.lit (bS [])), (.lit (bS [])), (.lit (bS [])), (.sl 0 [] .full), (.lit (.int .i64 (.ofNat 0))), (.lit (.int .i64 (.ofNat 0)))])), [], []⟩, q 4 7 (mv 19), ⟨5, none, none, (.e (.store 15 (T 8) (T 21))), [], []⟩])
 (.seq (.region [q 0 22 (mv 1), q 1 23 (mv 7), q 2 24 (.iaddr (.sl 71 5) (T 22) (T 23)), q 3 25 (.load (some 5) (T 24)), ⟨4, (some 9), none, (.n (.alloc 71 [(.lit (bS [])), (.lit (.int .i64 (.ofNat 0))), (.sl 0 [] .full), (.sl 0 [] .full), (.sl 0 [] .full)])), [], []⟩, ⟨5, none, none, (.e (.store 5 (T 9) (T 25))), [], []⟩])
 (.seq (.region [q 0 26 (mv 2), q 1 27 (.load (some 15) (T 8)), q 2 28 (.load (some 5) (T 9)), ⟨3, (some 29), none, (.callv (T 26) [(T 27), (T 28)]), [], []⟩, q 4 30 (.un .not (T 29))])
 (.cond (T 30) (.seq (.region [q 0 6 (.move (.const (.bool false)))])
 .ret) .skip)))))
 (.region [q 0 31 (.bin .add .no (T 17) (I 1)), q 1 17 (mv 31)])))))))
 (.seq (.region [q 0 6 (.move (.const (.bool true)))])
 .ret)))),
  32, [.tmp 6]⟩
noncomputable def c202 : AFn := ⟨(.seq (.region [⟨0, (some 2), none, (.n (.box 86 (T 0))), [], []⟩, ⟨1, (some 3), none, (.n (.box 71 (T 1))), [], []⟩, q 2 4 (.move (.const (.bool false)))])
 (.seq (.region [q 0 5 (.faddr 0 (T 2)), q 1 6 (.load none (T 5)), q 2 7 (.faddr 0 (T 3)), q 3 8 (.load none (T 7)), q 4 9 (.bin .eql .no (T 6) (T 8)), q 5 4 (mv 9)])
 .ret)),
  10, [.tmp 4]⟩
noncomputable def c217 : AFn := ⟨(.seq (.region [q 0 6 (mv 0), q 1 7 (.un .not (T 6))])
 (.cond (T 7) (.region [q 0 8 (mv 1), q 1 9 (mv 2), q 2 10 (.build (.struct [(0, 1), (1, 1)]) [(.lit (bS [])), (.lit (.int .i64 (.ofNat 0)))] [(0, (T 8)), (1, (T 9))]), q 3 11 (.iface 191 (T 10)), ⟨4, none, none, (.panic (T 11)), [], []⟩]) .skip)),
  12, []⟩
noncomputable def c218 : AFn := ⟨(.seq (.region [⟨0, (some 3), none, (.n (.box 319 (T 0))), [], []⟩, ⟨1, (some 4), none, (.n (.box 86 (T 1))), [], []⟩, ⟨2, (some 5), none, (.n (.box 71 (T 2))), [], []⟩])
 (.seq (.region [q 0 10 (.faddr 5 (T 3)), q 1 11 (.load none (T 10)), q 2 12 (.faddr 0 (T 4)), q 3 13 (.load none (T 12)), ⟨4, (some 14), none, (.n (.bslice 9 1 2 [(0, (T 11)), (1, (T 13))])), [], []⟩, ⟨5, (some 15), none, (.call 277 [(T 14)]), [], []⟩, ⟨6, (some 6), none, (.n (.alloc 9 [(.lit (bS []))])), [], []⟩, ⟨7, none, none, (.e (.store 1 (T 6) (T 15))), [], []⟩])
 (.seq (.region [q 0 16 (.func (.func 278) [] [(T 5), (T 6)]), ⟨1, (some 7), none, (.n (.alloc 398 [(.lit .nilFunc)])), [], []⟩, ⟨2, none, none, (.e (.store 1 (T 7) (T 16))), [], []⟩])
 (.seq (.region [q 0 17 (.func (.func 279) [] [(T 7), (T 5), (T 4), (T 6)]), q 1 8 (mv 17)])
 (.seq (.region [⟨0, (some 18), none, (.n (.makeMap (.int .i64))), [], []⟩, q 1 19 (mv 8), ⟨2, none, none, (.e (.mapPut (.int .i64) (T 18) (I 1) (T 19))), [], []⟩, q 3 20 (mv 8), ⟨4, none, none, (.e (.mapPut (.int .i64) (T 18) (I 3) (T 20))), [], []⟩, q 5 21 (.func (.func 280) [] [(T 7), (T 5), (T 3), (T 4), (T 6)]), ⟨6, none, none, (.e (.mapPut (.int .i64) (T 18) (I 4) (T 21))), [], []⟩, q 7 22 (.func (.func 283) [] [(T 7), (T 5), (T 4), (T 6)]), ⟨8, none, none, (.e (.mapPut (.int .i64) (T 18) (I 5) (T 22))), [], []⟩, q 9 23 (.func (.func 285) [] [(T 7), (T 5), (T 6), (T 4)]), ⟨10, none, none, (.e (.mapPut (.int .i64) (T 18) (I 6) (T 23))), [], []⟩, q 11 24 (.func (.func 286) [] [(T 7), (T 5), (T 3), (T 4), (T 6)]), ⟨12, none, none, (.e (.mapPut (.int .i64) (T 18) (I 7) (T 24))), [], []⟩, q 13 25 (.func (.func 288) [] [(T 3), (T 4), (T 5), (T 6), (T 7)]), ⟨14, none, none, (.e (.mapPut (.int .i64) (T 18) (I 8) (T 25))), [], []⟩, q 15 26 (.func (.func 290) [] [(T 7), (T 4), (T 3), (T 6), (T 5)]), ⟨16, none, none, (.e (.mapPut (.int .i64) (T 18) (I 9) (T 26))), [], []⟩, q 17 27 (.func (.func 291) [] [(T 3), (T 4), (T 5), (T 6), (T 7)]), ⟨18, none, none, (.e (.mapPut (.int .i64) (T 18) (I 12) (T 27))), [], []⟩, q 19 28 (mv 18), q 20 9 (mv 28)])
 (.region [q 0 29 (mv 9), q 1 30 (.faddr 1 (T 4)), q 2 31 (.load none (T 30)), q 3 32 (.lookup (.int .i64) (.lit .nilFunc) (T 29) (T 31) false), ⟨4, (some 33), none, (.callv (T 32) []), [], []⟩])))))),
  34, []⟩
noncomputable def c219 : AFn := ⟨(.seq (.region [q 0 4 (.move (I 0))])
 (.seq (.region [q 0 5 (mv 0), q 1 6 (mv 1), q 2 7 (.ext .cmp (T 5) (T 6)), q 3 4 (mv 7)])
 .ret)),
  8, [.tmp 4]⟩
noncomputable def c220 : AFn := ⟨(.seq (.region [q 0 2 (.move (.const (.bool false)))])
 (.seq (.region [q 0 3 (mv 0), q 1 4 (mv 0), q 2 5 (.bin .neq .no (T 3) (T 4)), q 3 2 (mv 5)])
 .ret)),
  6, [.tmp 2]⟩
noncomputable def c222 : AFn := ⟨(.block 0 (.loop (.seq (.seq (.region [q 0 6 (mv 2), q 1 7 (.bin .gtr .no (T 6) (I 0))])
 (.cond (T 7) .skip (.exit 0)))
 (.seq (.block 1 (.seq (.seq (.region [q 0 10 (mv 0), q 1 11 (.nilc (T 10)), q 2 12 (.faddr 1 (T 11)), q 3 13 (.load none (T 12)), q 4 14 (.bin .rem .no (T 13) (I 8)), q 5 15 (.bin .eql .no (T 14) (I 0))])
 (.cond (T 15) (.region [q 0 16 (mv 0), q 1 17 (mv 0), q 2 18 (.nilc (T 17)), q 3 19 (.faddr 0 (T 18)), q 4 20 (.load none (T 19)), q 5 21 (.bslice 1 1 [(0, (.const (.int .u8 (.ofNat 0))))]), ⟨6, (some 22), none, (.e (.appendM 5 1 1 (T 20) (T 21))), [], []⟩, q 7 23 (.nilc (T 16)), q 8 24 (.faddr 0 (T 23)), ⟨9, none, none, (.e (.store 1 (T 24) (T 22))), [], []⟩]) .skip))
 (.seq (.draw [.one (qd 0 25 (mv 0) [0] []), .one (qd 1 26 (.nilc (T 25)) [25] []), .one (qd 2 27 (.faddr 0 (T 26)) [26] []), .one (qd 3 28 (.load none (T 27)) [27] []), .one (qd 4 29 (mv 0) [0] []), .one (qd 5 30 (.nilc (T 29)) [29] []), .one (qd 6 31 (.faddr 0 (T 30)) [30] []), .one (qd 7 32 (.load none (T 31)) [31] []), .one (qd 8 33 (.len .sl (T 32)) [32] []), .one (qd 9 34 (.bin .sub .no (T 33) (I 1)) [33] []), .one (qd 10 35 (.iaddr (.sl 5 1) (T 28) (T 34)) [28, 34] []), .one (qd 11 36 (.load none (T 35)) [35] []), .one (qd 12 37 (mv 1) [1] []), .one (qd 13 38 (mv 2) [2] []), .one (qd 14 39 (.bin .sub .no (T 38) (I 1)) [38] []), .one (qd 15 40 (.bin .shr .no (T 37) (T 39)) [37, 39] []), .one (qd 16 41 (.bin .and .no (T 40) (I 1)) [40] []), .one (qd 17 42 (.conv (.int .u8) (T 41)) [41] []), .one (qd 18 43 (mv 0) [0] []), .one (qd 19 44 (.nilc (T 43)) [43] []), .one (qd 20 45 (.faddr 1 (T 44)) [44] []), .one (qd 21 46 (.load none (T 45)) [45] []), .one (qd 22 47 (.bin .rem .no (T 46) (I 8)) [46] []), .one (qd 23 48 (.bin .sub .no (I 7) (T 47)) [47] []), .one (qd 24 49 (.bin .shl .no (T 42) (T 48)) [42, 48] []), .one (qd 25 50 (.bin .or .no (T 36) (T 49)) [36, 49] []), .one (qd 26 51 (.iaddr (.sl 5 1) (T 28) (T 34)) [28, 34] []), .one (⟨27, none, none, (.e (.store 1 (T 51) (T 50))), [51, 50], []⟩)])
 (.region [q 0 52 (mv 0), q 1 53 (.nilc (T 52)), q 2 54 (.faddr 1 (T 53)), q 3 55 (.load none (T 54)), q 4 56 (.bin .add .no (T 55) (I 1)), q 5 57 (.nilc (T 52)), q 6 58 (.faddr 1 (T 57)), ⟨7, none, none, (.e (.store 1 (T 58) (T 56))), [], []⟩]))))
 (.region [q 0 8 (mv 2), q 1 9 (.bin .sub .no (T 8) (I 1)), q 2 2 (mv 9)]))))),
  59, []⟩
noncomputable def c232 : AFn := ⟨(.seq (.region [⟨0, (some 2), none, (.n (.box 71 (T 0))), [], []⟩, ⟨1, (some 3), none, (.n (.box 333 (T 1))), [], []⟩, q 2 4 (.move (I 0))])
 (.seq (.region [q 0 6 (.faddr 1 (T 3)), q 1 7 (.load none (T 6)), ⟨2, (some 5), none, (.n (.alloc 3 [(.lit (.int .i64 (.ofNat 0)))])), [], []⟩, ⟨3, none, none, (.e (.store 1 (T 5) (T 7))), [], []⟩])
 (.seq (.region [q 0 8 (.faddr 4 (T 2)), q 1 9 (.load none (T 8)), q 2 10 (.func (.func 300) [] [(T 3), (T 5)]), ⟨3, (some 11), none, (.call 148 [(T 9), (T 10)]), [], []⟩, q 4 4 (mv 11)])
 .ret))),
  12, [.tmp 4]⟩
noncomputable def c235 : AFn := ⟨(.seq (.region [q 0 8 (mv 1), q 1 9 (.bin .add .no (T 8) (I 1)), q 2 6 (mv 9)])
 (.block 0 (.loop (.seq (.seq (.region [q 0 10 (mv 6), q 1 11 (mv 2), q 2 12 (.bin .lss .no (T 10) (T 11))])
 (.cond (T 12) .skip (.exit 0)))
 (.seq (.block 1 (.seq (.region [q 0 15 (mv 6), q 1 7 (mv 15)])
 (.block 2 (.loop (.seq (.seq (.draw [.one (qd 0 16 (mv 7) [7] []), .one (qd 1 17 (mv 1) [1] []), .one (qd 2 18 (.bin .gtr .no (T 16) (T 17)) [16, 17] []), .one (qd 3 19 (mv 18) [18] []), .one (⟨4, (some 20), (some (19, true)), (.q (mv 0)), [0, 19], []⟩), .one (⟨5, (some 21), (some (19, true)), (.q (mv 7)), [7, 19], []⟩), .one (⟨6, (some 22), (some (19, true)), (.q (.iaddr (.sl 3 1) (T 20) (T 21))), [20, 21, 19], []⟩), .one (⟨7, (some 23), (some (19, true)), (.q (.load none (T 22))), [22, 19], []⟩), .one (⟨8, (some 24), (some (19, true)), (.q (mv 0)), [0, 19], []⟩), .one (⟨9, (some 25), (some (19, true)), (.q (mv 7)), [7, 19], []⟩), .one (⟨10, (some 26), (some (19, true)), (.q (.bin .sub .no (T 25) (I 1))), [25, 19], []⟩), .one (⟨11, (some 27), (some (19, true)), (.q (.iaddr (.sl 3 1) (T 24) (T 26))), [24, 26, 19], []⟩), .one (⟨12, (some 28), (some (19, true)), (.q (.load none (T 27))), [27, 19], []⟩), .one (⟨13, (some 29), (some (19, true)), (.call 241 [(T 23), (T 28)]), [23, 28, 19], []⟩), .one (qd 14 30 (.pick (T 19) (T 29) (.const (.bool false))) [19, 29] [])])
 (.cond (T 30) .skip (.exit 2)))
 (.seq (.block 3 (.draw [.one (qd 0 33 (mv 0) [0] []), .one (qd 1 34 (mv 7) [7] []), .one (qd 2 35 (mv 0) [0] []), .one (qd 3 36 (mv 7) [7] []), .one (qd 4 37 (.bin .sub .no (T 36) (I 1)) [36] []), .one (qd 5 38 (mv 0) [0] []), .one (qd 6 39 (mv 7) [7] []), .one (qd 7 40 (.bin .sub .no (T 39) (I 1)) [39] []), .one (qd 8 41 (.iaddr (.sl 3 1) (T 38) (T 40)) [38, 40] []), .one (qd 9 42 (.load none (T 41)) [41] []), .one (qd 10 43 (mv 0) [0] []), .one (qd 11 44 (mv 7) [7] []), .one (qd 12 45 (.iaddr (.sl 3 1) (T 43) (T 44)) [43, 44] []), .one (qd 13 46 (.load none (T 45)) [45] []), .one (qd 14 47 (.iaddr (.sl 3 1) (T 33) (T 34)) [33, 34] []), .one (⟨15, none, none, (.e (.store 1 (T 47) (T 42))), [47, 42], [4, 3, 2]⟩), .one (qd 16 48 (.iaddr (.sl 3 1) (T 35) (T 37)) [35, 37] []), .one (⟨17, none, none, (.e (.store 1 (T 48) (T 46))), [48, 46], []⟩)]))
 (.region [q 0 31 (mv 7), q 1 32 (.bin .sub .no (T 31) (I 1)), q 2 7 (mv 32)])))))))
 (.region [q 0 13 (mv 6), q 1 14 (.bin .add .no (T 13) (I 1)), q 2 6 (mv 14)])))))),
  49, []⟩
noncomputable def c241 : AFn := ⟨(.seq (.region [q 0 4 (.move (.const (.bool false)))])
 (.seq (.region [q 0 5 (mv 0), ⟨1, (some 6), none, (.call 220 [(T 5)]), [], []⟩, q 2 7 (mv 6), qg 3 8 7 true (mv 1), ⟨4, (some 9), (some (7, true)), (.call 220 [(T 8)]), [], []⟩, qg 5 10 7 true (.un .not (T 9)), q 6 11 (.pick (T 7) (T 10) (.const (.bool false))), q 7 12 (mv 11), qg 8 13 12 false (mv 0), qg 9 14 12 false (mv 1), qg 10 15 12 false (.bin .lss .no (T 13) (T 14)), q 11 16 (.pick (T 12) (.const (.bool true)) (T 15)), q 12 4 (mv 16)])
 .ret)),
  17, [.tmp 4]⟩
noncomputable def c245 : AFn := ⟨(.seq (.region [q 0 2 (.move (I 0))])
 (.seq (.seq (.region [q 0 3 (mv 0), q 1 4 (.bin .geq .no (T 3) (.const (.int .u64 (.ofNat 4294967296))))])
 (.cond (T 4) (.seq (.region [q 0 5 (mv 0), q 1 6 (.bin .shr .no (T 5) (.const (.int .u64 (.ofNat 32)))), q 2 0 (mv 6)])
 (.region [q 0 2 (.move (I 32))])) .skip))
 (.seq (.seq (.region [q 0 7 (mv 0), q 1 8 (.bin .geq .no (T 7) (.const (.int .u64 (.ofNat 65536))))])
 (.cond (T 8) (.seq (.region [q 0 9 (mv 0), q 1 10 (.bin .shr .no (T 9) (.const (.int .u64 (.ofNat 16)))), q 2 0 (mv 10)])
 (.region [q 0 11 (mv 2), q 1 12 (.bin .add .no (T 11) (I 16)), q 2 2 (mv 12)])) .skip))
 (.seq (.seq (.region [q 0 13 (mv 0), q 1 14 (.bin .geq .no (T 13) (.const (.int .u64 (.ofNat 256))))])
 (.cond (T 14) (.seq (.region [q 0 15 (mv 0), q 1 16 (.bin .shr .no (T 15) (.const (.int .u64 (.ofNat 8)))), q 2 0 (mv 16)])
 (.region [q 0 17 (mv 2), q 1 18 (.bin .add .no (T 17) (I 8)), q 2 2 (mv 18)])) .skip))
 (.seq (.region [q 0 19 (mv 2), q 1 20 (mv 0), q 2 21 (.conv (.int .u8) (T 20)), q 3 22 (.index .str none (.const (bS [0, 1, 2, 2, 3, 3, 3, 3, 4, 4, 4, 4, 4, 4, 4, 4, 5, 5, 5, 5, 5, 5, 5, 5, 5, 5, 5, 5, 5, 5, 5, 5, 6, 6, 6, 6, 6, 6, 6, 6, 6, 6, 6, 6, 6, 6, 6, 6, 6, 6, 6, 6, 6, 6, 6, 6, 6, 6, 6, 6, 6, 6, 6, 6, 7, 7, 7, 7, 7, 7, 7, 7, 7, 7, 7, 7, 7, 7, 7, 7, 7, 7, 7, 7, 7, 7, 7, 7, 7, 7, 7, 7, 7, 7, 7, 7, 7, 7, 7, 7, 7, 7, 7, 7, 7, 7, 7, 7, 7, 7, 7, 7, 7, 7, 7, 7, 7, 7, 7, 7, 7, 7, 7, 7, 7, 7, 7, 7, 8, 8, 8, 8, 8, 8, 8, 8, 8, 8, 8, 8, 8, 8, 8, 8, 8, 8, 8, 8, 8, 8, 8, 8, 8, 8, 8, 8, 8, 8, 8, 8, 8, 8, 8, 8, 8, 8, 8, 8, 8, 8, 8, 8, 8, 8, 8, 8, 8, 8, 8, 8, 8, 8, 8, 8, 8, 8, 8, 8, 8, 8, 8, 8, 8, 8, 8, 8, 8, 8, 8, 8, 8, 8, 8, 8, 8, 8, 8, 8, 8, 8, 8, 8, 8, 8, 8, 8, 8, 8, 8, 8, 8, 8, 8, 8, 8, 8, 8, 8, 8, 8, 8, 8, 8, 8, 8, 8, 8, 8, 8, 8, 8, 8, 8, 8, 8, 8, 8, 8, 8, 8, 8, 8, 8, 8, 8, 8])) (T 21)), q 4 23 (.conv (.int .i64) (T 22)), q 5 24 (.bin .add .no (T 19) (T 23)), q 6 2 (mv 24)])
 .ret))))),
  25, [.tmp 2]⟩
noncomputable def c247 : AFn := ⟨(.seq (.region [⟨0, (some 10), none, (.n (.alloc 71 [(.lit (bS [])), (.lit (.int .i64 (.ofNat 0))), (.sl 0 [] .full), (.sl 0 [] .full), (.sl 0 [] .full)])), [], []⟩, q 1 11 (.move (I 0))])
 (.seq (.region [q 0 22 (mv 0), q 1 23 (.nilc (T 22)), q 2 24 (.faddr 3 (T 23)), q 3 25 (.load (some 3) (T 24)), q 4 26 (mv 1), ⟨5, (some 27), none, (.call 46 [(T 25), (T 26)]), [], []⟩, q 6 21 (mv 27), q 7 28 (.extract (T 21) 0), q 8 29 (.extract (T 21) 1), q 9 12 (mv 28), q 10 13 (mv 29)])
 (.seq (.draw [.one (qd 0 30 (mv 2) [2] []), .one (qd 1 31 (mv 3) [3] []), .one (qd 2 32 (.build (.struct [(0, 1), (1, 1), (2, 1)]) [(.sl 0 [] .full), (.lit (.int .i64 (.ofNat 0))), (.lit (.int .i64 (.ofNat 0)))] [(0, (T 30)), (2, (T 31))]) [30, 31] []), .one (qd 3 33 (mv 0) [0] []), .one (qd 4 34 (.nilc (T 33)) [33] []), .one (qd 5 35 (.faddr 3 (T 34)) [34] []), .one (qd 6 36 (.load (some 3) (T 35)) [35] []), .one (qd 7 37 (mv 0) [0] []), .one (qd 8 38 (.nilc (T 37)) [37] []), .one (qd 9 39 (.faddr 3 (T 38)) [38] []), .one (qd 10 40 (.faddr 1 (T 39)) [39] []), .one (qd 11 41 (.load none (T 40)) [40] []), .one (qd 12 42 (mv 12) [12] []), .one (qd 13 43 (.iaddr (.sl 89 2) (T 41) (T 42)) [41, 42] []), .one (qd 14 44 (.load (some 2) (T 43)) [43] []), .one (qd 15 45 (mv 4) [4] []), .one (qd 16 46 (mv 0) [0] []), .one (qd 17 47 (.nilc (T 46)) [46] []), .one (qd 18 48 (.faddr 9 (T 47)) [47] []), .one (qd 19 49 (.load none (T 48)) [48] []), .one (⟨20, (some 50), none, (.n (.makeMap .str)), [], []⟩), .one (⟨21, (some 51), none, (.n (.makeMap .str)), [], []⟩), .one (qd 22 52 (.build (.struct [(0, 3), (3, 3), (6, 2), (8, 1), (9, 1), (10, 1), (11, 1), (12, 1)]) [(.sl 0 [] .full), (.lit (.int .i64 (.ofNat 0))), (.lit (.int .i64 (.ofNat 0))), (.lit (bS [])), (.sl 0 [] .full), (.lit (bS [])), (.lit (bS [])), (.sl 0 [] .full), (.lit (bS [])), (.lit (.pointer none)), (.lit (.map none)), (.lit (.map none)), (.sl 0 [] .full)] [(0, (T 32)), (1, (T 36)), (2, (T 44)), (3, (T 45)), (4, (T 49)), (5, (T 50)), (6, (T 51))]) [32, 36, 44, 45, 49, 50, 51] []), .one (⟨23, (some 53), none, (.n (.box 355 (T 52))), [52], []⟩), .one (qd 24 14 (mv 53) [53] [])])
 (.seq (.region [q 0 54 (mv 14), q 1 55 (mv 4), ⟨2, (some 56), none, (.call 309 [(T 54), (T 55)]), [], []⟩])
 (.seq (.region [⟨0, (some 57), none, (.n (.makeMap (.int .i64))), [], []⟩, ⟨1, none, none, (.e (.mapPut (.int .i64) (T 57) (I 1) (.func 310))), [], []⟩, ⟨2, none, none, (.e (.mapPut (.int .i64) (T 57) (I 2) (.func 311))), [], []⟩, ⟨3, none, none, (.e (.mapPut (.int .i64) (T 57) (I 3) (.func 312))), [], []⟩, ⟨4, none, none, (.e (.mapPut (.int .i64) (T 57) (I 4) (.func 313))), [], []⟩, ⟨5, none, none, (.e (.mapPut (.int .i64) (T 57) (I 5) (.func 314))), [], []⟩, ⟨6, none, none, (.e (.mapPut (.int .i64) (T 57) (I 6) (.func 315))), [], []⟩, ⟨7, none, none, (.e (.mapPut (.int .i64) (T 57) (I 7) (.func 316))), [], []⟩, ⟨8, none, none, (.e (.mapPut (.int .i64) (T 57) (I 8) (.func 317))), [], []⟩, ⟨9, none, none, (.e (.mapPut (.int .i64) (T 57) (I 9) (.func 318))), [], []⟩, ⟨10, none, none, (.e (.mapPut (.int .i64) (T 57) (I 10) (.func 319))), [], []⟩, ⟨11, none, none, (.e (.mapPut (.int .i64) (T 57) (I 11) (.func 320))), [], []⟩, ⟨12, none, none, (.e (.mapPut (.int .i64) (T 57) (I 12) (.func 321))), [], []⟩, q 13 58 (mv 57), q 14 15 (mv 58)])
 (.seq (.seq (.region [q 0 59 (mv 14), q 1 60 (.nilc (T 59)), q 2 61 (.faddr 6 (T 60)), q 3 62 (.faddr 1 (T 61)), q 4 63 (.load none (T 62)), q 5 64 (.len .sl (T 63)), q 6 65 (.move (I 0))])
 (.block 0 (.loop (.seq (.region [q 0 66 (.bin .lss .no (T 65) (T 64))])
 (.seq (.cond (T 66) .skip (.exit 0))
 (.seq (.block 1 (.seq (.region [q 0 67 (.iaddr (.sl 86 15) (T 63) (T 65)), q 1 68 (.load (some 15) (T 67)), ⟨2, (some 17), none, (.n (.alloc 86 [(.lit (bS [])), (.lit (.int .i64 (.ofNat 0))), (.lit (.int .i64 (.ofNat 0))), (.lit (.bool false)), (.lit (.bool false)), (.lit (.int .i64 (.ofNat 0))), (.lit (.int .i64 (.ofNat 0))), (.lit (.int .i64 (.ofNat 0))), (.sl 0 [] .full), (.lit (bS [])), (.lit (bS [])), (.lit (bS [])), (.sl 0 [] .full), (.lit (.int .i64 (.ofNat 0))), (.lit (.int .i64 (.ofNat 0)))])), [], []⟩, ⟨3, none, none, (.e (.store 15 (T 17) (T 68))), [], []⟩])
 (.seq (.region [q 0 69 (mv 14), q 1 70 (.faddr 0 (T 17)), q 2 71 (.load none (T 70)), ⟨3, (some 72), none, (.call 322 [(T 69), (T 71)]), [], []⟩, q 4 18 (mv 72)])
 (.seq (.draw [.one (qd 0 73 (mv 14) [14] []), .one (qd 1 74 (.nilc (T 73)) [73] []), .one (qd 2 75 (.faddr 11 (T 74)) [74] []), .one (qd 3 76 (.load none (T 75)) [75] []), .one (qd 4 77 (.faddr 0 (T 17)) [17] []), .one (qd 5 78 (.load none (T 77)) [77] []), .one (qd 6 79 (mv 14) [14] []), .one (qd 7 80 (.nilc (T 79)) [79] []), .one (qd 8 81 (.faddr 0 (T 80)) [80] []), .one (qd 9 82 (.load (some 3) (T 81)) [81] []), .one (⟨10, (some 83), none, (.call 323 [(T 82)]), [82], [5, 4, 3, 2, 1, 0]⟩), .one (⟨11, none, none, (.e (.mapPut .str (T 76) (T 78) (T 83))), [76, 78, 83], []⟩)])
 (.seq (.region [q 0 84 (.load (some 15) (T 17)), ⟨1, (some 85), none, (.call 127 [(T 84)]), [], []⟩, q 2 19 (mv 85)])
 (.seq (.seq (.region [q 0 86 (mv 19)])
 (.cond (T 86) (.region [q 0 87 (mv 14), q 1 88 (mv 18), ⟨2, (some 89), none, (.call 309 [(T 87), (T 88)]), [], []⟩]) .skip))
 (.seq (.region [q 0 90 (mv 15), q 1 91 (.faddr 1 (T 17)), q 2 92 (.load none (T 91)), q 3 93 (.lookup (.int .i64) (.lit .nilFunc) (T 90) (T 92) false), q 4 94 (mv 14), q 5 95 (.load (some 15) (T 17)), q 6 96 (mv 18), ⟨7, (some 97), none, (.callv (T 93) [(T 94), (T 95), (T 96)]), [], []⟩, ⟨8, (some 20), none, (.n (.alloc 71 [(.lit (bS [])), (.lit (.int .i64 (.ofNat 0))), (.sl 0 [] .full), (.sl 0 [] .full), (.sl 0 [] .full)])), [], []⟩, ⟨9, none, none, (.e (.store 5 (T 20) (T 97))), [], []⟩])
 (.block 2 (.seq (.region [q 0 99 (mv 19), q 1 98 (mv 99)])
 (.cond (T 98) (.seq (.region [q 0 100 (.faddr 0 (T 17)), q 1 101 (.load none (T 100)), q 2 102 (.faddr 0 (T 20)), ⟨3, none, none, (.e (.store 1 (T 102) (T 101))), [], []⟩])
 (.seq (.draw [.one (qd 0 103 (mv 14) [14] []), .one (qd 1 104 (.nilc (T 103)) [103] []), .one (qd 2 105 (.faddr 12 (T 104)) [104] []), .one (qd 3 106 (.load none (T 105)) [105] []), .one (qd 4 107 (.load (some 5) (T 20)) [20] []), .one (qd 5 108 (.len .sl (T 106)) [106] []), .one (q 6 109 (.bslice 5 1 [(0, (.const (.agg ⟨[(bS []), (.int .i64 (.ofNat 0)), (.slice none 0 0), (.slice none 0 0), (.slice none 0 0)]⟩)))])), .one (⟨7, (some 110), none, (.e (.appendM 71 5 96 (T 106) (T 109))), [106, 109], []⟩), .one (qd 8 111 (.iaddr (.sl 71 5) (T 110) (T 108)) [110, 108] []), .one (qd 10 112 (.nilc (T 103)) [103] []), .one (qd 11 113 (.faddr 12 (T 112)) [112] []), .two (⟨9, none, none, (.e (.store 5 (T 111) (T 107))), [111, 107], [11, 10]⟩) (⟨12, none, none, (.e (.store 1 (T 113) (T 110))), [113, 110], [8]⟩)])
 (.seq (.region [q 0 114 (.load (some 15) (T 17)), ⟨1, (some 115), none, (.call 137 [(T 114)]), [], []⟩])
 (.cond (T 115) (.draw [.one (qd 0 116 (mv 14) [14] []), .one (qd 1 117 (.nilc (T 116)) [116] []), .one (qd 2 118 (.faddr 10 (T 117)) [117] []), .one (qd 3 119 (.load none (T 118)) [118] []), .one (qd 4 120 (.faddr 0 (T 17)) [17] []), .one (qd 5 121 (.load none (T 120)) [120] []), .one (qd 6 122 (.faddr 1 (T 20)) [20] []), .one (qd 7 123 (.load none (T 122)) [122] []), .one (⟨8, none, none, (.e (.mapPut .str (T 119) (T 121) (T 123))), [119, 121, 123], []⟩)]) .skip)))) (.seq (.region [q 0 125 (.faddr 1 (T 17)), q 1 126 (.load none (T 125)), q 2 127 (.bin .eql .no (T 126) (I 2)), q 3 124 (mv 127)])
 (.cond (T 124) (.draw [.one (qd 0 128 (mv 14) [14] []), .one (qd 1 129 (.nilc (T 128)) [128] []), .one (qd 2 130 (.faddr 10 (T 129)) [129] []), .one (qd 3 131 (.load none (T 130)) [130] []), .one (qd 4 132 (.faddr 0 (T 17)) [17] []), .one (qd 5 133 (.load none (T 132)) [132] []), .one (qd 6 134 (.faddr 5 (T 17)) [17] []), .one (qd 7 135 (.load none (T 134)) [134] []), .one (⟨8, none, none, (.e (.mapPut .str (T 131) (T 133) (T 135))), [131, 133, 135], []⟩)]) .skip))))))))))))
 (.region [q 0 136 (.bin .add .no (T 65) (I 1)), q 1 65 (mv 136)])))))))
 (.seq (.draw [.one (qd 0 137 (mv 14) [14] []), .one (qd 1 138 (.nilc (T 137)) [137] []), .one (qd 2 139 (.faddr 6 (T 138)) [138] []), .one (qd 3 140 (.faddr 0 (T 139)) [139] []), .one (qd 4 141 (.load none (T 140)) [140] []), .one (qd 5 142 (mv 14) [14] []), .one (qd 6 143 (.nilc (T 142)) [142] []), .one (qd 7 144 (.faddr 12 (T 143)) [143] []), .one (qd 8 145 (.load none (T 144)) [144] []), .one (qd 9 146 (.build (.struct [(0, 1), (1, 1), (2, 1), (3, 1), (4, 1)]) [(.lit (bS [])), (.lit (.int .i64 (.ofNat 0))), (.sl 0 [] .full), (.sl 0 [] .full), (.sl 0 [] .full)] [(0, (T 141)), (4, (T 145))]) [141, 145] []), .one (qd 10 147 (mv 14) [14] []), .one (qd 11 148 (.nilc (T 147)) [147] []), .one (qd 12 149 (.faddr 0 (T 148)) [148] []), .one (qd 13 150 (.faddr 1 (T 149)) [149] []), .one (qd 14 151 (.load none (T 150)) [150] []), .one (qd 15 152 (.bin .quo .no (T 151) (I 8)) [151] []), .one (⟨16, none, none, (.e (.store 5 (T 10) (T 146))), [10, 146], [15, 14, 13, 12, 11, 10]⟩), .one (qd 17 11 (mv 152) [152] [])])
 .ret))))))),
  153, [.cell (some 5) 10, .tmp 11]⟩
noncomputable def c251 : AFn := ⟨(.seq (.region [q 0 2 (.move (.const (bS [])))])
 (.seq (.seq (.region [q 0 3 (mv 0), q 1 4 (.bin .lss .no (T 3) (I 10))])
 (.cond (T 4) (.seq (.region [q 0 5 (mv 0), q 1 6 (mv 0), q 2 7 (.bin .add .no (T 6) (I 1)), q 3 8 (.slice .str (.const (bS [48, 49, 50, 51, 52, 53, 54, 55, 56, 57, 97, 98, 99, 100, 101, 102, 103, 104, 105, 106, 107, 108, 109, 110, 111, 112, 113, 114, 115, 116, 117, 118, 119, 120, 121, 122])) (some (T 5)) (some (T 7)) none), q 4 2 (mv 8)])
 .ret) .skip))
 (.seq (.region [q 0 9 (mv 0), q 1 10 (.bin .mul .no (T 9) (I 2)), q 2 11 (mv 0), q 3 12 (.bin .mul .no (T 11) (I 2)), q 4 13 (.bin .add .no (T 12) (I 2)), q 5 14 (.slice .str (.const (bS [48, 48, 48, 49, 48, 50, 48, 51, 48, 52, 48, 53, 48, 54, 48, 55, 48, 56, 48, 57, 49, 48, 49, 49, 49, 50, 49, 51, 49, 52, 49, 53, 49, 54, 49, 55, 49, 56, 49, 57, 50, 48, 50, 49, 50, 50, 50, 51, 50, 52, 50, 53, 50, 54, 50, 55, 50, 56, 50, 57, 51, 48, 51, 49, 51, 50, 51, 51, 51, 52, 51, 53, 51, 54, 51, 55, 51, 56, 51, 57, 52, 48, 52, 49, 52, 50, 52, 51, 52, 52, 52, 53, 52, 54, 52, 55, 52, 56, 52, 57, 53, 48, 53, 49, 53, 50, 53, 51, 53, 52, 53, 53, 53, 54, 53, 55, 53, 56, 53, 57, 54, 48, 54, 49, 54, 50, 54, 51, 54, 52, 54, 53, 54, 54, 54, 55, 54, 56, 54, 57, 55, 48, 55, 49, 55, 50, 55, 51, 55, 52, 55, 53, 55, 54, 55, 55, 55, 56, 55, 57, 56, 48, 56, 49, 56, 50, 56, 51, 56, 52, 56, 53, 56, 54, 56, 55, 56, 56, 56, 57, 57, 48, 57, 49, 57, 50, 57, 51, 57, 52, 57, 53, 57, 54, 57, 55, 57, 56, 57, 57])) (some (T 10)) (some (T 13)) none), q 6 2 (mv 14)])
 .ret))),
  15, [.tmp 2]⟩
noncomputable def c255 : AFn := ⟨(.seq (.region [⟨0, (some 3), none, (.n (.box 103 (T 0))), [], []⟩])
 (.scope (.seq (.seq (.region [q 0 8 (.load none (T 3)), q 1 9 (.load none (T 1)), q 2 10 (.load (some 5) (T 2)), ⟨3, (some 11), none, (.callv (T 8) [(T 9), (T 10)]), [], []⟩, q 4 12 (.un .not (T 11))])
 (.cond (T 12) .ret .skip))
 (.seq (.label 0)
 (.seq (.region [q 0 13 (.faddr 4 (T 2)), q 1 14 (.load none (T 13)), q 2 15 (.len .sl (T 14)), q 3 16 (.move (I 0))])
 (.block 0 (.loop (.seq (.region [q 0 17 (.bin .lss .no (T 16) (T 15))])
 (.seq (.cond (T 17) .skip (.exit 0))
 (.seq (.block 1 (.seq (.region [q 0 18 (.iaddr (.sl 71 5) (T 14) (T 16)), q 1 19 (.load (some 5) (T 18)), ⟨2, (some 5), none, (.n (.alloc 71 [(.lit (bS [])), (.lit (.int .i64 (.ofNat 0))), (.sl 0 [] .full), (.sl 0 [] .full), (.sl 0 [] .full)])), [], []⟩, ⟨3, none, none, (.e (.store 5 (T 5) (T 19))), [], []⟩])
 (.seq (.region [q 0 20 (.load (some 5) (T 5)), q 1 21 (.load none (T 1)), q 2 22 (.bin .add .no (T 21) (I 1)), ⟨3, (some 23), none, (.call 184 [(T 20), (T 22)]), [], []⟩])
 (.block 2 (.rangeF 32 (T 23) [24, 25] (.seq (.region [q 0 6 (mv 24)])
 (.region [⟨0, (some 7), none, (.n (.alloc 71 [(.lit (bS [])), (.lit (.int .i64 (.ofNat 0))), (.sl 0 [] .full), (.sl 0 [] .full), (.sl 0 [] .full)])), [], []⟩, ⟨1, none, none, (.e (.store 5 (T 7) (T 25))), [], []⟩])) (.block 3 (.seq (.region [q 0 26 (.load none (T 3)), q 1 27 (mv 6), q 2 28 (.load (some 5) (T 7)), ⟨3, (some 29), none, (.callv (T 26) [(T 27), (T 28)]), [], []⟩, q 4 30 (.un .not (T 29))])
 (.cond (T 30) (.exit 0) .skip))))))))
 (.region [q 0 31 (.bin .add .no (T 16) (I 1)), q 1 16 (mv 31)]))))))))))),
  32, []⟩
noncomputable def c257 : AFn := ⟨(.seq (.region [q 0 4 (.move (.const (.bool false)))])
 (.seq (.region [q 0 5 (mv 0), q 1 6 (mv 1), ⟨2, (some 7), none, (.call 331 [(T 5), (T 6)]), [], []⟩, q 3 8 (.bin .geq .no (T 7) (I 0)), q 4 4 (mv 8)])
 .ret)),
  9, [.tmp 4]⟩
noncomputable def c258 : AFn := ⟨(.seq (.region [q 0 4 (.move (I 0))])
 (.seq (.region [q 0 5 (mv 0), q 1 6 (mv 1), q 2 7 (.idx (T 5) (T 6)), q 3 4 (mv 7)])
 .ret)),
  8, [.tmp 4]⟩
noncomputable def c262 : AFn := ⟨(.seq (.region [q 0 4 (.move (.const (.bool false)))])
 (.seq (.region [q 0 5 (mv 0), q 1 6 (mv 1), ⟨2, (some 7), none, (.call 334 [(T 5), (T 6)]), [], []⟩, q 3 8 (.bin .geq .no (T 7) (I 0)), q 4 4 (mv 8)])
 .ret)),
  9, [.tmp 4]⟩
noncomputable def c263 : AFn := ⟨(.seq (.region [q 0 4 (.move (I 0))])
 (.seq (.seq (.region [q 0 6 (mv 0), q 1 7 (.len .sl (T 6)), q 2 8 (.move (I 0))])
 (.block 0 (.loop (.seq (.region [q 0 9 (.bin .lss .no (T 8) (T 7))])
 (.seq (.cond (T 9) .skip (.exit 0))
 (.seq (.block 1 (.seq (.region [q 0 10 (mv 8), q 1 5 (mv 10)])
 (.seq (.region [q 0 11 (mv 1), q 1 12 (mv 0), q 2 13 (mv 5), q 3 14 (.iaddr (.sl 5 1) (T 12) (T 13)), q 4 15 (.load none (T 14)), ⟨5, (some 16), none, (.callv (T 11) [(T 15)]), [], []⟩])
 (.cond (T 16) (.seq (.region [q 0 17 (mv 5), q 1 4 (mv 17)])
 .ret) .skip))))
 (.region [q 0 18 (.bin .add .no (T 8) (I 1)), q 1 8 (mv 18)])))))))
 (.seq (.region [q 0 4 (.move (.const (.int .i64 (.negSucc 0))))])
 .ret))),
  19, [.tmp 4]⟩
noncomputable def c264 : AFn := ⟨(.seq (.region [q 0 2 (.move (.const (.slice none 0 0)))])
 (.seq (.draw [.one (qd 0 3 (mv 0) [0] []), .one (qd 1 4 (.nilc (T 3)) [3] []), .one (qd 2 5 (.faddr 7 (T 4)) [4] []), .one (qd 3 6 (.faddr 1 (T 5)) [5] []), .one (qd 4 7 (.load none (T 6)) [6] []), .one (qd 5 8 (mv 0) [0] []), .one (qd 6 9 (.nilc (T 8)) [8] []), .one (qd 7 10 (.faddr 6 (T 9)) [9] []), .one (qd 8 11 (.load none (T 10)) [10] []), .one (qd 9 12 (.slice (.sl 86 15) (T 7) none (some (T 11)) none) [7, 11] []), .one (qd 10 2 (mv 12) [12] [])])
 .ret)),
  13, [.tmp 2]⟩
noncomputable def c265 : AFn := ⟨(.seq (.region [q 0 0 (.move (.const (.map none)))])
 (.seq (.region [⟨0, (some 1), none, (.n (.makeMap (.int .i64))), [], []⟩, q 1 2 (.build (.struct [(0, 1), (1, 1)]) [(.lit .nilFunc), (.lit .nilFunc)] [(0, (.func 335)), (1, (.func 336))]), ⟨2, none, none, (.e (.mapPut (.int .i64) (T 1) (I 1) (T 2))), [], []⟩, q 3 3 (.build (.struct [(0, 1), (1, 1)]) [(.lit .nilFunc), (.lit .nilFunc)] [(0, (.func 339)), (1, (.func 340))]), ⟨4, none, none, (.e (.mapPut (.int .i64) (T 1) (I 2) (T 3))), [], []⟩, q 5 4 (.build (.struct [(0, 1), (1, 1)]) [(.lit .nilFunc), (.lit .nilFunc)] [(0, (.func 341)), (1, (.func 342))]), ⟨6, none, none, (.e (.mapPut (.int .i64) (T 1) (I 3) (T 4))), [], []⟩, q 7 5 (.build (.struct [(0, 1), (1, 1)]) [(.lit .nilFunc), (.lit .nilFunc)] [(0, (.func 343)), (1, (.func 344))]), ⟨8, none, none, (.e (.mapPut (.int .i64) (T 1) (I 4) (T 5))), [], []⟩, q 9 6 (.build (.struct [(0, 1), (1, 1)]) [(.lit .nilFunc), (.lit .nilFunc)] [(0, (.func 345)), (1, (.func 346))]), ⟨10, none, none, (.e (.mapPut (.int .i64) (T 1) (I 5) (T 6))), [], []⟩, q 11 7 (.build (.struct [(0, 1), (1, 1)]) [(.lit .nilFunc), (.lit .nilFunc)] [(0, (.func 347)), (1, (.func 348))]), ⟨12, none, none, (.e (.mapPut (.int .i64) (T 1) (I 6) (T 7))), [], []⟩, q 13 8 (.build (.struct [(0, 1), (1, 1)]) [(.lit .nilFunc), (.lit .nilFunc)] [(0, (.func 349)), (1, (.func 350))]), ⟨14, none, none, (.e (.mapPut (.int .i64) (T 1) (I 7) (T 8))), [], []⟩, q 15 9 (.build (.struct [(0, 1), (1, 1)]) [(.lit .nilFunc), (.lit .nilFunc)] [(0, (.func 352)), (1, (.func 353))]), ⟨16, none, none, (.e (.mapPut (.int .i64) (T 1) (I 8) (T 9))), [], []⟩, q 17 10 (.build (.struct [(0, 1), (1, 1)]) [(.lit .nilFunc), (.lit .nilFunc)] [(0, (.func 354)), (1, (.func 355))]), ⟨18, none, none, (.e (.mapPut (.int .i64) (T 1) (I 9) (T 10))), [], []⟩, q 19 11 (.build (.struct [(0, 1), (1, 1)]) [(.lit .nilFunc), (.lit .nilFunc)] [(0, (.func 356)), (1, (.func 357))]), ⟨20, none, none, (.e (.mapPut (.int .i64) (T 1) (I 10) (T 11))), [], []⟩, q 21 12 (.build (.struct [(0, 1), (1, 1)]) [(.lit .nilFunc), (.lit .nilFunc)] [(0, (.func 358)), (1, (.func 359))]), ⟨22, none, none, (.e (.mapPut (.int .i64) (T 1) (I 11) (T 12))), [], []⟩, q 23 13 (.build (.struct [(0, 1), (1, 1)]) [(.lit .nilFunc), (.lit .nilFunc)] [(0, (.func 360)), (1, (.func 361))]), ⟨24, none, none, (.e (.mapPut (.int .i64) (T 1) (I 12) (T 13))), [], []⟩, q 25 14 (mv 1), q 26 0 (mv 14)])
 .ret)),
  15, [.tmp 0]⟩
noncomputable def c266 : AFn := ⟨(.seq (.region [⟨0, (some 2), none, (.n (.box 86 (T 0))), [], []⟩, ⟨1, (some 3), none, (.n (.box 86 (T 1))), [], []⟩, q 2 4 (.move (.const (.bool false)))])
 (.seq (.draw [.one (qd 0 5 (.load (some 15) (T 2)) [2] []), .one (qd 2 7 (.load (some 15) (T 3)) [3] []), .one (⟨1, (some 6), none, (.call 362 [(T 5)]), [5], [2]⟩), .one (⟨3, (some 8), none, (.call 362 [(T 7)]), [7], []⟩), .one (qd 4 9 (.bin .eql (.agg [(0, .str), (1, .str), (2, .str), (3, .str), (4, .int), (5, .int), (6, .int), (7, .int), (8, .int), (9, .int), (10, .int), (11, .bool), (12, .bool)]) (T 6) (T 8)) [6, 8] []), .one (qd 5 10 (mv 9) [9] []), .one (⟨6, (some 11), (some (10, true)), (.q (.faddr 7 (T 2))), [2, 10], []⟩), .one (⟨7, (some 12), (some (10, true)), (.q (.faddr 1 (T 11))), [11, 10], []⟩), .one (⟨8, (some 13), (some (10, true)), (.q (.load none (T 12))), [12, 10], []⟩), .one (⟨9, (some 14), (some (10, true)), (.q (.faddr 7 (T 3))), [3, 10], []⟩), .one (⟨10, (some 15), (some (10, true)), (.q (.faddr 1 (T 14))), [14, 10], []⟩), .one (⟨11, (some 16), (some (10, true)), (.q (.load none (T 15))), [15, 10], []⟩), .one (⟨12, (some 17), (some (10, true)), (.call 363 [(T 13), (T 16)]), [13, 16, 10], []⟩), .one (qd 13 18 (.pick (T 10) (T 17) (.const (.bool false))) [10, 17] []), .one (qd 14 19 (mv 18) [18] []), .one (⟨15, (some 20), (some (19, true)), (.q (.faddr 12 (T 2))), [2, 19], []⟩), .one (⟨16, (some 21), (some (19, true)), (.q (.load none (T 20))), [20, 19], []⟩), .one (⟨17, (some 22), (some (19, true)), (.q (.faddr 12 (T 3))), [3, 19], []⟩), .one (⟨18, (some 23), (some (19, true)), (.q (.load none (T 22))), [22, 19], []⟩), .one (⟨19, (some 24), (some (19, true)), (.call 364 [(T 21), (T 23)]), [21, 23, 19], []⟩), .one (qd 20 25 (.pick (T 19) (T 24) (.const (.bool false))) [19, 24] []), .one (qd 21 4 (mv 25) [25] [])])
 .ret)),
  26, [.tmp 4]⟩
noncomputable def c267 : AFn := ⟨(.seq (.region [q 0 5 (.load none (T 1)), q 1 6 (.len .sl (T 5)), q 2 7 (.move (I 0))])
 (.block 0 (.loop (.seq (.region [q 0 8 (.bin .lss .no (T 7) (T 6))])
 (.seq (.cond (T 8) .skip (.exit 0))
 (.seq (.block 1 (.seq (.region [q 0 9 (mv 7), q 1 10 (.iaddr (.sl 9 1) (T 5) (T 7)), q 2 11 (.load none (T 10)), q 3 3 (mv 9), q 4 4 (mv 11)])
 (.seq (.region [q 0 12 (.load none (T 1)), q 1 13 (mv 3), q 2 14 (.slice (.sl 9 1) (T 12) none (some (T 13)) none), q 3 15 (mv 4), ⟨4, (some 16), none, (.call 268 [(T 14), (T 15)]), [], []⟩, q 5 17 (.un .not (T 16)), q 6 18 (mv 17), qg 7 19 18 true (mv 0), qg 8 20 18 true (mv 4), ⟨9, (some 21), (some (18, true)), (.callv (T 19) [(T 20)]), [], []⟩, qg 10 22 18 true (.un .not (T 21)), q 11 23 (.pick (T 18) (T 22) (.const (.bool false)))])
 (.cond (T 23) .ret .skip))))
 (.region [q 0 24 (.bin .add .no (T 7) (I 1)), q 1 7 (mv 24)]))))))),
  25, []⟩
noncomputable def c270 : AFn := ⟨(.seq (.region [q 0 4 (.move (.const (.bool false)))])
 (.seq (.region [q 0 5 (mv 0), q 1 6 (mv 1), ⟨2, (some 7), none, (.call 367 [(T 5), (T 6)]), [], []⟩, q 3 8 (.bin .geq .no (T 7) (I 0)), q 4 4 (mv 8)])
 .ret)),
  9, [.tmp 4]⟩
noncomputable def c277 : AFn := ⟨(.seq (.region [q 0 2 (.move (.const (bS [])))])
 (.seq (.region [q 0 3 (mv 0), ⟨1, (some 4), none, (.call 376 [(T 3), (.func 377)]), [], []⟩, ⟨2, (some 5), none, (.call 101 [(T 4), (.const (bS [46]))]), [], []⟩, q 3 2 (mv 5)])
 .ret)),
  6, [.tmp 2]⟩
noncomputable def c278 : AFn := ⟨(.region [q 0 10 (mv 0), q 1 11 (mv 10), qg 2 12 11 false (.faddr 1 (T 4)), qg 3 13 11 false (.load none (T 12)), qg 4 14 11 false (.bin .eql .no (T 13) (I 0)), q 5 15 (.pick (T 11) (.const (.bool true)) (T 14)), q 6 16 (mv 15), qg 7 17 16 true (mv 1), qg 8 18 16 true (mv 17), qg 9 19 18 false (.faddr 2 (T 4)), qg 10 20 18 false (.load none (T 19)), qg 11 21 18 false (.len .sl (T 20)), qg 12 22 18 false (.bin .eql .no (T 21) (I 0)), qg 13 23 16 true (.pick (T 18) (.const (.bool true)) (T 22)), q 14 24 (.pick (T 16) (T 23) (.const (.bool false))), q 15 25 (mv 24), qg 16 26 25 true (mv 2), qg 17 27 25 true (mv 26), qg 18 28 27 false (.faddr 3 (T 4)), qg 19 29 27 false (.load none (T 28)), qg 20 30 27 false (.len .sl (T 29)), qg 21 31 27 false (.bin .eql .no (T 30) (I 0)), qg 22 32 25 true (.pick (T 27) (.const (.bool true)) (T 31)), q 23 33 (.pick (T 25) (T 32) (.const (.bool false))), q 24 34 (mv 33), qg 25 35 34 true (mv 3), qg 26 36 34 true (mv 35), qg 27 37 36 false (.faddr 4 (T 4)), qg 28 38 36 false (.load none (T 37)), qg 29 39 36 false (.len .sl (T 38)), qg 30 40 36 false (.bin .eql .no (T 39) (I 0)), qg 31 41 34 true (.pick (T 36) (.const (.bool true)) (T 40)), q 32 42 (.pick (T 34) (T 41) (.const (.bool false))), q 33 43 (.load none (T 5)), ⟨34, (some 44), none, (.call 217 [(T 42), (T 43), (I 6)]), [], []⟩]),
  45, []⟩
noncomputable def c279 : AFn := ⟨(.seq (.region [q 0 4 (.load none (T 0)), ⟨1, (some 5), none, (.callv (T 4) [(.const (.bool true)), (.const (.bool false)), (.const (.bool false)), (.const (.bool false))]), [], []⟩])
 (.region [q 0 6 (.faddr 1 (T 1)), q 1 7 (.load none (T 6)), q 2 8 (.faddr 5 (T 2)), q 3 9 (.load none (T 8)), q 4 10 (.bin .geq .no (T 7) (T 9)), q 5 11 (mv 10), qg 6 12 11 true (.faddr 1 (T 1)), qg 7 13 11 true (.load none (T 12)), qg 8 14 11 true (.faddr 6 (T 2)), qg 9 15 11 true (.load none (T 14)), qg 10 16 11 true (.bin .leq .no (T 13) (T 15)), q 11 17 (.pick (T 11) (T 16) (.const (.bool false))), q 12 18 (.load none (T 3)), ⟨13, (some 19), none, (.call 217 [(T 17), (T 18), (I 3)]), [], []⟩])),
  20, []⟩
noncomputable def c300 : AFn := ⟨(.seq (.region [⟨0, (some 3), none, (.n (.box 71 (T 0))), [], []⟩, q 1 4 (.move (.const (.bool false)))])
 (.seq (.seq (.region [q 0 5 (.faddr 0 (T 3)), q 1 6 (.load none (T 5)), q 2 7 (.faddr 0 (T 1)), q 3 8 (.load none (T 7)), q 4 9 (.bin .neq .no (T 6) (T 8))])
 (.cond (T 9) (.seq (.region [q 0 4 (.move (.const (.bool false)))])
 .ret) .skip))
 (.seq (.region [q 0 10 (.load none (T 2)), q 1 11 (.bin .sub .no (T 10) (I 1)), ⟨2, none, none, (.e (.store 1 (T 2) (T 11))), [], []⟩])
 (.seq (.region [q 0 12 (.load none (T 2)), q 1 13 (.bin .lss .no (T 12) (I 0)), q 2 4 (mv 13)])
 .ret)))),
  14, [.tmp 4]⟩
noncomputable def c309 : AFn := ⟨(.seq (.region [q 0 4 (mv 0), q 1 5 (.nilc (T 4)), q 2 6 (.faddr 9 (T 5)), q 3 7 (.load none (T 6)), q 4 8 (.nilc (T 7)), q 5 9 (.load none (T 8)), q 6 10 (.bin .add .no (T 9) (I 1)), q 7 11 (.nilc (T 7)), ⟨8, none, none, (.e (.store 1 (T 11) (T 10))), [], []⟩])
 (.seq (.region [q 0 12 (mv 0), q 1 13 (.nilc (T 12)), q 2 14 (.faddr 9 (T 13)), q 3 15 (.load none (T 14)), q 4 16 (.nilc (T 15)), q 5 17 (.load none (T 16)), q 6 18 (.bin .gtr .no (T 17) (I 65536))])
 (.cond (T 18) (.region [q 0 19 (mv 0), q 1 20 (.nilc (T 19)), q 2 21 (.faddr 0 (T 20)), q 3 22 (.load (some 3) (T 21)), ⟨4, (some 23), none, (.call 323 [(T 22)]), [], []⟩, q 5 24 (mv 1), ⟨6, (some 25), none, (.call 396 [(T 23), (I 7), (T 24)]), [], []⟩]) .skip))),
  26, []⟩
noncomputable def c310 : AFn := ⟨(.seq (.region [⟨0, (some 4), none, (.n (.box 86 (T 1))), [], []⟩, ⟨1, (some 6), none, (.n (.alloc 71 [(.lit (bS [])), (.lit (.int .i64 (.ofNat 0))), (.sl 0 [] .full), (.sl 0 [] .full), (.sl 0 [] .full)])), [], []⟩])
 (.seq (.region [q 0 7 (mv 0), q 1 8 (.load (some 15) (T 4)), q 2 9 (mv 2), ⟨3, (some 10), none, (.call 397 [(T 7), (T 8), (T 9)]), [], []⟩, q 4 11 (.faddr 1 (T 6)), ⟨5, none, none, (.e (.store 1 (T 11) (T 10))), [], []⟩])
 (.seq (.region [q 0 12 (.load (some 5) (T 6)), ⟨1, none, none, (.e (.store 5 (T 6) (T 12))), [], []⟩])
 .ret))),
  13, [.cell (some 5) 6]⟩
noncomputable def c322 : AFn := ⟨(.seq (.region [q 0 4 (.move (.const (bS [])))])
 (.seq (.seq (.region [q 0 5 (mv 0), q 1 6 (.nilc (T 5)), q 2 7 (.faddr 8 (T 6)), q 3 8 (.load none (T 7)), q 4 9 (.bin .eql .no (T 8) (.const (bS [])))])
 (.cond (T 9) (.seq (.region [q 0 10 (mv 1), q 1 4 (mv 10)])
 .ret) .skip))
 (.seq (.region [q 0 11 (mv 0), q 1 12 (.nilc (T 11)), q 2 13 (.faddr 8 (T 12)), q 3 14 (.load none (T 13)), q 4 15 (.bin .add .no (T 14) (.const (bS [46]))), q 5 16 (mv 1), q 6 17 (.bin .add .no (T 15) (T 16)), q 7 4 (mv 17)])
 .ret))),
  18, [.tmp 4]⟩
noncomputable def c323 : AFn := ⟨(.seq (.region [⟨0, (some 1), none, (.n (.box 353 (T 0))), [], []⟩, q 1 2 (.move (I 0))])
 (.seq (.region [q 0 3 (.faddr 2 (T 1)), q 1 4 (.load none (T 3)), q 2 5 (.faddr 1 (T 1)), q 3 6 (.load none (T 5)), q 4 7 (.bin .quo .no (T 6) (I 8)), q 5 8 (.bin .add .no (T 4) (T 7)), q 6 2 (mv 8)])
 .ret)),
  9, [.tmp 2]⟩
noncomputable def c331 : AFn := ⟨(.seq (.region [q 0 4 (.move (I 0))])
 (.seq (.seq (.region [q 0 6 (mv 0), q 1 7 (.len .sl (T 6)), q 2 8 (.move (I 0))])
 (.block 0 (.loop (.seq (.region [q 0 9 (.bin .lss .no (T 8) (T 7))])
 (.seq (.cond (T 9) .skip (.exit 0))
 (.seq (.block 1 (.seq (.region [q 0 10 (mv 8), q 1 5 (mv 10)])
 (.seq (.region [q 0 11 (mv 1), q 1 12 (mv 0), q 2 13 (mv 5), q 3 14 (.iaddr (.sl 127 2) (T 12) (T 13)), q 4 15 (.load (some 2) (T 14)), ⟨5, (some 16), none, (.callv (T 11) [(T 15)]), [], []⟩])
 (.cond (T 16) (.seq (.region [q 0 17 (mv 5), q 1 4 (mv 17)])
 .ret) .skip))))
 (.region [q 0 18 (.bin .add .no (T 8) (I 1)), q 1 8 (mv 18)])))))))
 (.seq (.region [q 0 4 (.move (.const (.int .i64 (.negSucc 0))))])
 .ret))),
  19, [.tmp 4]⟩
noncomputable def c334 : AFn := ⟨(.seq (.region [q 0 4 (.move (I 0))])
 (.seq (.seq (.region [q 0 6 (mv 0), q 1 7 (.len .sl (T 6)), q 2 8 (.move (I 0))])
 (.block 0 (.loop (.seq (.region [q 0 9 (.bin .lss .no (T 8) (T 7))])
 (.seq (.cond (T 9) .skip (.exit 0))
 (.seq (.block 1 (.seq (.region [q 0 10 (mv 8), q 1 5 (mv 10)])
 (.seq (.region [q 0 11 (mv 1), q 1 12 (mv 0), q 2 13 (mv 5), q 3 14 (.iaddr (.sl 4 1) (T 12) (T 13)), q 4 15 (.load none (T 14)), q 5 16 (.bin .eql .bool (T 11) (T 15))])
 (.cond (T 16) (.seq (.region [q 0 17 (mv 5), q 1 4 (mv 17)])
 .ret) .skip))))
 (.region [q 0 18 (.bin .add .no (T 8) (I 1)), q 1 8 (mv 18)])))))))
 (.seq (.region [q 0 4 (.move (.const (.int .i64 (.negSucc 0))))])
 .ret))),
  19, [.tmp 4]⟩
noncomputable def c335 : AFn := ⟨(.region [q 0 2 (mv 0), q 1 3 (mv 0), q 2 4 (mv 0), q 3 5 (mv 0), q 4 6 (.nilc (T 2)), q 5 7 (.faddr 2 (T 6)), ⟨6, none, none, (.e (.store 1 (T 7) (I 0))), [], []⟩, q 7 8 (.nilc (T 3)), q 8 9 (.faddr 3 (T 8)), ⟨9, none, none, (.e (.store 1 (T 9) (.const (.bool false)))), [], []⟩, q 10 10 (.nilc (T 4)), q 11 11 (.faddr 5 (T 10)), ⟨12, none, none, (.e (.store 1 (T 11) (I 0))), [], []⟩, q 13 12 (.nilc (T 5)), q 14 13 (.faddr 6 (T 12)), ⟨15, none, none, (.e (.store 1 (T 13) (I 0))), [], []⟩]),
  14, []⟩
noncomputable def c336 : AFn := ⟨(.seq (.region [⟨0, (some 3), none, (.n (.box 86 (T 1))), [], []⟩])
 (.seq (.region [q 0 4 (mv 0), q 1 5 (.load (some 15) (T 3)), ⟨2, (some 6), none, (.call 337 [(T 4), (T 5)]), [], []⟩])
 (.draw [.one (qd 0 7 (mv 0) [0] []), .one (qd 1 8 (.faddr 2 (T 3)) [3] []), .one (qd 2 9 (.load none (T 8)) [8] []), .one (qd 3 10 (.bin .shl .no (I 1) (T 9)) [9] []), .one (qd 4 11 (.bin .sub .no (T 10) (I 1)) [10] []), .one (qd 5 12 (.faddr 5 (T 3)) [3] []), .one (qd 6 13 (.load none (T 12)) [12] []), .one (qd 7 14 (.faddr 6 (T 3)) [3] []), .one (qd 8 15 (.load none (T 14)) [14] []), .one (qd 9 16 (.bslice 1 2 [(0, (T 13)), (1, (T 15))]) [13, 15] []), .one (⟨10, (some 17), none, (.call 338 [(T 7), (I 0), (T 11), (T 16)]), [7, 11, 16], []⟩)]))),
  18, []⟩
noncomputable def c337 : AFn := ⟨(.seq (.region [⟨0, (some 3), none, (.n (.box 86 (T 1))), [], []⟩])
 (.region [q 0 4 (mv 0), q 1 5 (.faddr 2 (T 3)), q 2 6 (.load none (T 5)), q 3 7 (.bin .geq .no (T 6) (I 1)), q 4 8 (mv 7), qg 5 9 8 true (.faddr 2 (T 3)), qg 6 10 8 true (.load none (T 9)), qg 7 11 8 true (.bin .leq .no (T 10) (I 32)), q 8 12 (.pick (T 8) (T 11) (.const (.bool false))), q 9 13 (mv 12), qg 10 14 13 true (.faddr 3 (T 3)), qg 11 15 13 true (.load none (T 14)), qg 12 16 13 true (.un .not (T 15)), qg 13 17 13 true (mv 16), qg 14 18 17 false (.faddr 2 (T 3)), qg 15 19 17 false (.load none (T 18)), qg 16 20 17 false (.bin .gtr .no (T 19) (I 8)), qg 17 21 17 false (mv 20), qg 18 22 21 true (.faddr 2 (T 3)), qg 19 23 21 true (.load none (T 22)), qg 20 24 21 true (.bin .rem .no (T 23) (I 8)), qg 21 25 21 true (.bin .eql .no (T 24) (I 0)), qg 22 26 17 false (.pick (T 21) (T 25) (.const (.bool false))), qg 23 27 13 true (.pick (T 17) (.const (.bool true)) (T 26)), q 24 28 (.pick (T 13) (T 27) (.const (.bool false))), ⟨25, (some 29), none, (.call 110 [(T 4), (T 28), (I 6)]), [], []⟩])),
  30, []⟩
noncomputable def c338 : AFn := ⟨(.seq (.region [q 0 10 (mv 3), q 1 11 (.len .sl (T 10)), q 2 12 (.move (I 0))])
 (.block 0 (.loop (.seq (.region [q 0 13 (.bin .lss .no (T 12) (T 11))])
 (.seq (.cond (T 13) .skip (.exit 0))
 (.seq (.block 1 (.seq (.region [q 0 14 (.iaddr (.sl 3 1) (T 10) (T 12)), q 1 15 (.load none (T 14)), q 2 9 (mv 15)])
 (.seq (.region [q 0 16 (mv 0), q 1 17 (mv 9), q 2 18 (mv 1), q 3 19 (.bin .geq .no (T 17) (T 18)), q 4 20 (mv 19), qg 5 21 20 true (mv 9), qg 6 22 20 true (mv 2), qg 7 23 20 true (.bin .leq .no (T 21) (T 22)), q 8 24 (.pick (T 20) (T 23) (.const (.bool false))), ⟨9, (some 25), none, (.call 110 [(T 16), (T 24), (I 7)]), [], []⟩])
 (.region [q 0 26 (mv 9), q 1 1 (mv 26)]))))
 (.region [q 0 27 (.bin .add .no (T 12) (I 1)), q 1 12 (mv 27)]))))))),
  28, []⟩
noncomputable def c362 : AFn := ⟨(.seq (.region [⟨0, (some 1), none, (.n (.box 86 (T 0))), [], []⟩, ⟨1, (some 2), none, (.n (.alloc 439 [(.lit (bS [])), (.lit (bS [])), (.lit (bS [])), (.lit (bS [])), (.lit (.int .i64 (.ofNat 0))), (.lit (.int .i64 (.ofNat 0))), (.lit (.int .i64 (.ofNat 0))), (.lit (.int .i64 (.ofNat 0))), (.lit (.int .i64 (.ofNat 0))), (.lit (.int .i64 (.ofNat 0))), (.lit (.int .i64 (.ofNat 0))), (.lit (.bool false)), (.lit (.bool false))])), [], []⟩])
 (.seq (.region [q 0 3 (.faddr 0 (T 1)), q 1 4 (.load none (T 3)), q 2 5 (.faddr 9 (T 1)), q 3 6 (.load none (T 5)), q 4 7 (.faddr 10 (T 1)), q 5 8 (.load none (T 7)), q 6 9 (.faddr 11 (T 1)), q 7 10 (.load none (T 9)), q 8 11 (.faddr 1 (T 1)), q 9 12 (.load none (T 11)), q 10 13 (.faddr 2 (T 1)), q 11 14 (.load none (T 13)), q 12 15 (.faddr 5 (T 1)), q 13 16 (.load none (T 15)), q 14 17 (.faddr 6 (T 1)), q 15 18 (.load none (T 17)), q 16 19 (.faddr 7 (T 1)), q 17 20 (.faddr 0 (T 19)), q 18 21 (.load none (T 20)), q 19 22 (.faddr 13 (T 1)), q 20 23 (.load none (T 22)), q 21 24 (.faddr 14 (T 1)), q 22 25 (.load none (T 24)), q 23 26 (.faddr 3 (T 1)), q 24 27 (.load none (T 26)), q 25 28 (.faddr 4 (T 1)), q 26 29 (.load none (T 28)), q 27 30 (.build (.struct [(0, 1), (1, 1), (2, 1), (3, 1), (4, 1), (5, 1), (6, 1), (7, 1), (8, 1), (9, 1), (10, 1), (11, 1), (12, 1)]) [(.lit (bS [])), (.lit (bS [])), (.lit (bS [])), (.lit (bS [])), (.lit (.int .i64 (.ofNat 0))), (.lit (.int .i64 (.ofNat 0))), (.lit (.int .i64 (.ofNat 0))), (.lit (.int .i64 (.ofNat 0))), (.lit (.int .i64 (.ofNat 0))), (.lit (.int .i64 (.ofNat 0))), (.lit (.int .i64 (.ofNat 0))), (.lit (.bool false)), (.lit (.bool false))] [(0, (T 4)), (1, (T 6)), (2, (T 8)), (3, (T 10)), (4, (T 12)), (5, (T 14)), (6, (T 16)), (7, (T 18)), (8, (T 21)), (9, (T 23)), (10, (T 25)), (11, (T 27)), (12, (T 29))]), ⟨28, none, none, (.e (.store 13 (T 2) (T 30))), [], []⟩])
 .ret)),
  31, [.cell (some 13) 2]⟩
noncomputable def c363 : AFn := ⟨(.seq (.region [q 0 4 (.move (.const (.bool false)))])
 (.seq (.seq (.region [q 0 6 (mv 0), q 1 7 (.len .sl (T 6)), q 2 8 (mv 1), q 3 9 (.len .sl (T 8)), q 4 10 (.bin .neq .no (T 7) (T 9))])
 (.cond (T 10) (.seq (.region [q 0 4 (.move (.const (.bool false)))])
 .ret) .skip))
 (.seq (.seq (.region [q 0 11 (mv 0), q 1 12 (.len .sl (T 11)), q 2 13 (.move (I 0))])
 (.block 0 (.loop (.seq (.region [q 0 14 (.bin .lss .no (T 13) (T 12))])
 (.seq (.cond (T 14) .skip (.exit 0))
 (.seq (.block 1 (.seq (.region [q 0 15 (mv 13), q 1 5 (mv 15)])
 (.seq (.draw [.one (qd 0 16 (mv 0) [0] []), .one (qd 1 17 (mv 5) [5] []), .one (qd 2 18 (.iaddr (.sl 246 2) (T 16) (T 17)) [16, 17] []), .one (qd 3 19 (.load (some 2) (T 18)) [18] []), .one (qd 4 20 (mv 1) [1] []), .one (qd 5 21 (mv 5) [5] []), .one (qd 6 22 (.iaddr (.sl 246 2) (T 20) (T 21)) [20, 21] []), .one (qd 7 23 (.load (some 2) (T 22)) [22] []), .one (qd 8 24 (.bin .neq (.agg [(0, .str), (1, .int)]) (T 19) (T 23)) [19, 23] [])])
 (.cond (T 24) (.seq (.region [q 0 4 (.move (.const (.bool false)))])
 .ret) .skip))))
 (.region [q 0 25 (.bin .add .no (T 13) (I 1)), q 1 13 (mv 25)])))))))
 (.seq (.region [q 0 4 (.move (.const (.bool true)))])
 .ret)))),
  26, [.tmp 4]⟩
noncomputable def c364 : AFn := ⟨(.seq (.region [q 0 4 (.move (.const (.bool false)))])
 (.seq (.seq (.region [q 0 6 (mv 0), q 1 7 (.len .sl (T 6)), q 2 8 (mv 1), q 3 9 (.len .sl (T 8)), q 4 10 (.bin .neq .no (T 7) (T 9))])
 (.cond (T 10) (.seq (.region [q 0 4 (.move (.const (.bool false)))])
 .ret) .skip))
 (.seq (.seq (.region [q 0 11 (mv 0), q 1 12 (.len .sl (T 11)), q 2 13 (.move (I 0))])
 (.block 0 (.loop (.seq (.region [q 0 14 (.bin .lss .no (T 13) (T 12))])
 (.seq (.cond (T 14) .skip (.exit 0))
 (.seq (.block 1 (.seq (.region [q 0 15 (mv 13), q 1 5 (mv 15)])
 (.seq (.draw [.one (qd 0 16 (mv 0) [0] []), .one (qd 1 17 (mv 5) [5] []), .one (qd 2 18 (.iaddr (.sl 254 3) (T 16) (T 17)) [16, 17] []), .one (qd 3 19 (.load (some 3) (T 18)) [18] []), .one (qd 4 20 (mv 1) [1] []), .one (qd 5 21 (mv 5) [5] []), .one (qd 6 22 (.iaddr (.sl 254 3) (T 20) (T 21)) [20, 21] []), .one (qd 7 23 (.load (some 3) (T 22)) [22] []), .one (qd 8 24 (.bin .neq (.agg [(0, .int), (1, .int), (2, .str)]) (T 19) (T 23)) [19, 23] [])])
 (.cond (T 24) (.seq (.region [q 0 4 (.move (.const (.bool false)))])
 .ret) .skip))))
 (.region [q 0 25 (.bin .add .no (T 13) (I 1)), q 1 13 (mv 25)])))))))
 (.seq (.region [q 0 4 (.move (.const (.bool true)))])
 .ret)))),
  26, [.tmp 4]⟩
noncomputable def c367 : AFn := ⟨(.seq (.region [q 0 4 (.move (I 0))])
 (.seq (.seq (.region [q 0 6 (mv 0), q 1 7 (.len .sl (T 6)), q 2 8 (.move (I 0))])
 (.block 0 (.loop (.seq (.region [q 0 9 (.bin .lss .no (T 8) (T 7))])
 (.seq (.cond (T 9) .skip (.exit 0))
 (.seq (.block 1 (.seq (.region [q 0 10 (mv 8), q 1 5 (mv 10)])
 (.seq (.region [q 0 11 (mv 1), q 1 12 (mv 0), q 2 13 (mv 5), q 3 14 (.iaddr (.sl 3 1) (T 12) (T 13)), q 4 15 (.load none (T 14)), q 5 16 (.bin .eql .no (T 11) (T 15))])
 (.cond (T 16) (.seq (.region [q 0 17 (mv 5), q 1 4 (mv 17)])
 .ret) .skip))))
 (.region [q 0 18 (.bin .add .no (T 8) (I 1)), q 1 8 (mv 18)])))))))
 (.seq (.region [q 0 4 (.move (.const (.int .i64 (.negSucc 0))))])
 .ret))),
  19, [.tmp 4]⟩
noncomputable def c376 : AFn := ⟨(.seq (.region [q 0 4 (.move (.const (.slice none 0 0)))])
 (.seq (.region [q 0 8 (mv 0), q 1 9 (mv 1), ⟨2, (some 10), none, (.call 423 [(T 8), (T 9)]), [], []⟩, q 3 5 (mv 10)])
 (.seq (.seq (.region [q 0 11 (mv 5), q 1 12 (.bin .eql .no (T 11) (.const (.int .i64 (.negSucc 0))))])
 (.cond (T 12) (.seq (.region [q 0 13 (mv 0), q 1 4 (mv 13)])
 .ret) .skip))
 (.seq (.seq (.region [q 0 14 (mv 5), q 1 15 (.bin .add .no (T 14) (I 1)), q 2 6 (mv 15)])
 (.block 0 (.loop (.seq (.seq (.region [q 0 16 (mv 6), q 1 17 (mv 0), q 2 18 (.len .sl (T 17)), q 3 19 (.bin .lss .no (T 16) (T 18))])
 (.cond (T 19) .skip (.exit 0)))
 (.seq (.block 1 (.seq (.region [q 0 22 (mv 0), q 1 23 (mv 6), q 2 24 (.iaddr (.sl 9 1) (T 22) (T 23)), q 3 25 (.load none (T 24)), q 4 7 (mv 25)])
 (.seq (.region [q 0 26 (mv 1), q 1 27 (mv 7), ⟨2, (some 28), none, (.callv (T 26) [(T 27)]), [], []⟩, q 3 29 (.un .not (T 28))])
 (.cond (T 29) (.seq (.region [q 0 30 (mv 0), q 1 31 (mv 5), q 2 32 (mv 7), q 3 33 (.iaddr (.sl 9 1) (T 30) (T 31)), ⟨4, none, none, (.e (.store 1 (T 33) (T 32))), [], []⟩])
 (.region [q 0 34 (mv 5), q 1 35 (.bin .add .no (T 34) (I 1)), q 2 5 (mv 35)])) .skip))))
 (.region [q 0 20 (mv 6), q 1 21 (.bin .add .no (T 20) (I 1)), q 2 6 (mv 21)]))))))
 (.seq (.region [q 0 36 (mv 0), q 1 37 (mv 5), q 2 38 (.slice (.sl 9 1) (T 36) (some (T 37)) none none), ⟨3, none, none, (.e (.clear [(.lit (bS []))] (T 38))), [], []⟩])
 (.seq (.region [q 0 39 (mv 0), q 1 40 (mv 5), q 2 41 (.slice (.sl 9 1) (T 39) none (some (T 40)) none), q 3 4 (mv 41)])
 .ret)))))),
  42, [.tmp 4]⟩
noncomputable def c377 : AFn := ⟨(.seq (.region [q 0 2 (.move (.const (.bool false)))])
 (.seq (.region [q 0 3 (mv 0), q 1 4 (.bin .eql .no (T 3) (.const (bS []))), q 2 2 (mv 4)])
 .ret)),
  5, [.tmp 2]⟩
noncomputable def c396 : AFn := ⟨(.region [q 0 6 (mv 0), q 1 7 (mv 1), q 2 8 (mv 2), q 3 9 (.build (.struct [(0, 1), (1, 1), (2, 1)]) [(.lit (.int .i64 (.ofNat 0))), (.lit (.int .i64 (.ofNat 0))), (.lit (bS []))] [(0, (T 6)), (1, (T 7)), (2, (T 8))]), q 4 10 (.iface 155 (T 9)), ⟨5, none, none, (.panic (T 10)), [], []⟩]),
  11, []⟩
noncomputable def c397 : AFn := ⟨(.seq (.region [⟨0, (some 4), none, (.n (.box 86 (T 1))), [], []⟩, q 1 6 (.move (I 0))])
 (.seq (.region [q 0 7 (.move (I 3))])
 (.seq (.seq (.region [q 0 16 (.faddr 1 (T 4)), q 1 17 (.load none (T 16)), q 2 18 (.bin .eql .no (T 17) (I 2))])
 (.cond (T 18) (.region [q 0 7 (.move (I 6))]) .skip))
 (.seq (.seq (.region [q 0 8 (.move (I 0))])
 (.block 0 (.loop (.seq (.seq (.region [q 0 19 (mv 8), q 1 20 (.faddr 2 (T 4)), q 2 21 (.load none (T 20)), q 3 22 (.bin .lss .no (T 19) (T 21))])
 (.cond (T 22) .skip (.exit 0)))
 (.block 1 (.seq (.region [q 0 23 (mv 0), q 1 24 (mv 2), ⟨2, (some 25), none, (.call 398 [(T 23), (T 24)]), [], []⟩, q 3 9 (mv 25)])
 (.seq (.region [q 0 26 (mv 0), q 1 27 (.nilc (T 26)), q 2 28 (.faddr 0 (T 27)), q 3 29 (.faddr 1 (T 28)), q 4 30 (.load none (T 29)), q 5 31 (.bin .rem .no (T 30) (I 8)), q 6 32 (.bin .sub .no (I 8) (T 31)), q 7 10 (mv 32)])
 (.seq (.region [q 0 33 (mv 10), q 1 34 (.faddr 2 (T 4)), q 2 35 (.load none (T 34)), q 3 36 (mv 8), q 4 37 (.bin .sub .no (T 35) (T 36)), q 5 38 (.min [(T 33), (T 37)]), q 6 11 (mv 38)])
 (.seq (.draw [.one (qd 0 39 (mv 9) [9] []), .one (qd 1 40 (.conv (.int .i64) (T 39)) [39] []), .one (qd 2 41 (mv 10) [10] []), .one (qd 3 42 (mv 11) [11] []), .one (qd 4 43 (.bin .sub .no (T 41) (T 42)) [41, 42] []), .one (qd 5 44 (.bin .shr .no (T 40) (T 43)) [40, 43] []), .one (qd 6 45 (mv 11) [11] []), .one (qd 7 46 (.bin .shl .no (I 1) (T 45)) [45] []), .one (qd 8 47 (.bin .sub .no (T 46) (I 1)) [46] []), .one (qd 9 48 (.bin .and .no (T 44) (T 47)) [44, 47] []), .one (qd 10 12 (mv 48) [48] [])])
 (.seq (.region [⟨0, (some 13), none, (.n (.alloc 3 [(.lit (.int .i64 (.ofNat 0)))])), [], []⟩, ⟨1, (some 14), none, (.n (.alloc 3 [(.lit (.int .i64 (.ofNat 0)))])), [], []⟩, ⟨2, none, none, (.e (.store 1 (T 13) (I 0))), [], []⟩, ⟨3, none, none, (.e (.store 1 (T 14) (I 1))), [], []⟩])
 (.seq (.seq (.region [q 0 49 (.faddr 3 (T 4)), q 1 50 (.load none (T 49))])
 (.cond (T 50) (.seq (.region [q 0 51 (mv 6), q 1 52 (mv 12), q 2 53 (mv 8), q 3 54 (.bin .shl .no (T 52) (T 53)), q 4 55 (.bin .or .no (T 51) (T 54)), q 5 6 (mv 55)])
 (.draw [.one (qd 0 56 (mv 6) [6] []), .one (qd 1 57 (mv 8) [8] []), .one (qd 2 58 (mv 11) [11] []), .one (qd 3 59 (.bin .add .no (T 57) (T 58)) [57, 58] []), .one (qd 4 60 (.bin .shl .no (I 1) (T 59)) [59] []), .one (⟨5, none, none, (.e (.store 1 (T 13) (T 56))), [13, 56], [4, 3, 2, 1]⟩), .one (⟨6, none, none, (.e (.store 1 (T 14) (T 60))), [14, 60], []⟩)])) (.seq (.region [q 0 61 (mv 6), q 1 62 (mv 11), q 2 63 (.bin .shl .no (T 61) (T 62)), q 3 64 (mv 12), q 4 65 (.bin .or .no (T 63) (T 64)), q 5 6 (mv 65)])
 (.region [q 0 66 (mv 6), q 1 67 (.faddr 2 (T 4)), q 2 68 (.load none (T 67)), q 3 69 (mv 8), q 4 70 (.bin .sub .no (T 68) (T 69)), q 5 71 (mv 11), q 6 72 (.bin .sub .no (T 70) (T 71)), q 7 73 (.bin .shl .no (T 66) (T 72)), ⟨8, none, none, (.e (.store 1 (T 13) (T 73))), [], []⟩]))))
 (.seq (.region [q 0 74 (mv 8), q 1 75 (mv 11), q 2 76 (.bin .add .no (T 74) (T 75)), q 3 8 (mv 76)])
 (.seq (.draw [.one (qd 0 77 (.load none (T 13)) [13] []), .one (qd 1 78 (.faddr 2 (T 4)) [4] []), .one (qd 2 79 (.load none (T 78)) [78] []), .one (qd 3 80 (mv 8) [8] []), .one (qd 4 81 (.bin .sub .no (T 79) (T 80)) [79, 80] []), .one (qd 5 82 (.bin .shl .no (I 1) (T 81)) [81] []), .one (qd 6 83 (.bin .sub .no (T 82) (I 1)) [82] []), .one (qd 7 84 (.load none (T 14)) [14] []), .one (qd 8 85 (.bin .mul .no (T 83) (T 84)) [83, 84] []), .one (qd 9 86 (.bin .add .no (T 77) (T 85)) [77, 85] []), .one (⟨10, (some 15), none, (.n (.alloc 3 [(.lit (.int .i64 (.ofNat 0)))])), [], []⟩), .one (⟨11, none, none, (.e (.store 1 (T 15) (T 86))), [15, 86], []⟩)])
 (.seq (.region [q 0 87 (mv 0), q 1 88 (.load (some 15) (T 4)), q 2 89 (mv 2), q 3 90 (mv 7), q 4 91 (.func (.func 437) [] [(T 13), (T 14), (T 15)]), ⟨5, (some 92), none, (.call 400 [(T 87), (T 88), (T 89), (T 90), (T 91)]), [], []⟩])
 (.region [q 0 93 (mv 0), q 1 94 (.nilc (T 93)), q 2 95 (.faddr 0 (T 94)), q 3 96 (.faddr 1 (T 95)), q 4 97 (.load none (T 96)), q 5 98 (mv 11), q 6 99 (.bin .add .no (T 97) (T 98)), q 7 100 (.nilc (T 93)), q 8 101 (.faddr 0 (T 100)), q 9 102 (.faddr 1 (T 101)), ⟨10, none, none, (.e (.store 1 (T 102) (T 99))), [], []⟩])))))))))))))))
 (.seq (.region [q 0 103 (mv 6), q 1 6 (mv 103)])
 .ret))))),
  104, [.tmp 6]⟩
noncomputable def c398 : AFn := ⟨(.seq (.region [q 0 4 (.move (.const (.int .u8 (.ofNat 0))))])
 (.seq (.region [q 0 6 (mv 0), q 1 7 (.nilc (T 6)), q 2 8 (.faddr 0 (T 7)), q 3 9 (.load (some 3) (T 8)), ⟨4, (some 10), none, (.call 323 [(T 9)]), [], []⟩, q 5 5 (mv 10)])
 (.seq (.seq (.region [q 0 11 (mv 5), q 1 12 (mv 0), q 2 13 (.nilc (T 12)), q 3 14 (.faddr 0 (T 13)), q 4 15 (.faddr 0 (T 14)), q 5 16 (.load none (T 15)), q 6 17 (.len .sl (T 16)), q 7 18 (.bin .geq .no (T 11) (T 17))])
 (.cond (T 18) (.region [q 0 19 (mv 0), q 1 20 (.nilc (T 19)), q 2 21 (.faddr 0 (T 20)), q 3 22 (.faddr 0 (T 21)), q 4 23 (.load none (T 22)), q 5 24 (.len .sl (T 23)), q 6 25 (mv 1), ⟨7, (some 26), none, (.call 396 [(T 24), (I 4), (T 25)]), [], []⟩]) .skip))
 (.seq (.region [q 0 27 (mv 0), q 1 28 (.nilc (T 27)), q 2 29 (.faddr 0 (T 28)), q 3 30 (.faddr 0 (T 29)), q 4 31 (.load none (T 30)), q 5 32 (mv 5), q 6 33 (.iaddr (.sl 5 1) (T 31) (T 32)), q 7 34 (.load none (T 33)), q 8 4 (mv 34)])
 .ret)))),
  35, [.tmp 4]⟩
noncomputable def c400 : AFn := ⟨(.seq (.region [⟨0, (some 6), none, (.n (.box 86 (T 1))), [], []⟩])
 (.seq (.region [q 0 13 (mv 0), q 1 14 (.load (some 15) (T 6)), ⟨2, (some 15), none, (.call 439 [(T 13), (T 14)]), [], []⟩, q 3 12 (mv 15), q 4 16 (.extract (T 12) 0), q 5 17 (.extract (T 12) 1), ⟨6, (some 10), none, (.n (.alloc 474 [(.lit (.int .i64 (.ofNat 0))), (.lit (.int .i64 (.ofNat 0)))])), [], []⟩, ⟨7, none, none, (.e (.store 2 (T 10) (T 16))), [], []⟩, q 8 11 (mv 17)])
 (.block 0 (.seq (.region [q 0 19 (mv 4), q 1 20 (.load (some 2) (T 10)), ⟨2, (some 21), none, (.callv (T 19) [(T 20)]), [], []⟩, q 3 22 (.un .not (T 21)), q 4 18 (mv 22)])
 (.cond (T 18) (.region [q 0 23 (mv 0), q 1 24 (.nilc (T 23)), q 2 25 (.faddr 0 (T 24)), q 3 26 (.load (some 3) (T 25)), ⟨4, (some 27), none, (.call 323 [(T 26)]), [], []⟩, q 5 28 (mv 3), q 6 29 (mv 2), ⟨7, (some 30), none, (.call 396 [(T 27), (T 28), (T 29)]), [], []⟩]) (.seq (.region [q 0 32 (mv 11), q 1 33 (.len .sl (T 32)), q 2 34 (.bin .gtr .no (T 33) (I 0)), q 3 35 (mv 34), qg 4 36 35 true (mv 11), qg 5 37 35 true (mv 4), ⟨6, (some 38), (some (35, true)), (.call 440 [(T 36), (T 37)]), [], []⟩, qg 7 39 35 true (.un .not (T 38)), q 8 40 (.pick (T 35) (T 39) (.const (.bool false))), q 9 31 (mv 40)])
 (.cond (T 31) (.region [q 0 41 (mv 0), q 1 42 (.nilc (T 41)), q 2 43 (.faddr 0 (T 42)), q 3 44 (.load (some 3) (T 43)), ⟨4, (some 45), none, (.call 323 [(T 44)]), [], []⟩, q 5 46 (mv 2), ⟨6, (some 47), none, (.call 396 [(T 45), (I 9), (T 46)]), [], []⟩]) .skip))))))),
  48, []⟩
noncomputable def c423 : AFn := ⟨(.seq (.region [q 0 4 (.move (I 0))])
 (.seq (.seq (.region [q 0 6 (mv 0), q 1 7 (.len .sl (T 6)), q 2 8 (.move (I 0))])
 (.block 0 (.loop (.seq (.region [q 0 9 (.bin .lss .no (T 8) (T 7))])
 (.seq (.cond (T 9) .skip (.exit 0))
 (.seq (.block 1 (.seq (.region [q 0 10 (mv 8), q 1 5 (mv 10)])
 (.seq (.region [q 0 11 (mv 1), q 1 12 (mv 0), q 2 13 (mv 5), q 3 14 (.iaddr (.sl 9 1) (T 12) (T 13)), q 4 15 (.load none (T 14)), ⟨5, (some 16), none, (.callv (T 11) [(T 15)]), [], []⟩])
 (.cond (T 16) (.seq (.region [q 0 17 (mv 5), q 1 4 (mv 17)])
 .ret) .skip))))
 (.region [q 0 18 (.bin .add .no (T 8) (I 1)), q 1 8 (mv 18)])))))))
 (.seq (.region [q 0 4 (.move (.const (.int .i64 (.negSucc 0))))])
 .ret))),
  19, [.tmp 4]⟩
noncomputable def c437 : AFn := ⟨(.seq (.region [⟨0, (some 4), none, (.n (.box 474 (T 0))), [], []⟩, q 1 5 (.move (.const (.bool false)))])
 (.seq (.region [q 0 7 (.faddr 0 (T 4)), q 1 8 (.load none (T 7)), q 2 9 (.load none (T 1)), q 3 10 (.bin .sub .no (T 8) (T 9)), q 4 11 (.max [(I 0), (T 10)]), q 5 6 (mv 11)])
 (.seq (.draw [.one (qd 0 12 (.load none (T 1)) [1] []), .one (qd 1 13 (mv 6) [6] []), .one (qd 2 14 (.load none (T 2)) [2] []), .one (qd 3 15 (.bin .add .no (T 13) (T 14)) [13, 14] []), .one (qd 4 16 (.bin .sub .no (T 15) (I 1)) [15] []), .one (qd 5 17 (.load none (T 2)) [2] []), .one (qd 6 18 (.bin .quo .no (T 16) (T 17)) [16, 17] []), .one (qd 7 19 (.load none (T 2)) [2] []), .one (qd 8 20 (.bin .mul .no (T 18) (T 19)) [18, 19] []), .one (qd 9 21 (.bin .add .no (T 12) (T 20)) [12, 20] []), .one (qd 10 22 (.faddr 1 (T 4)) [4] []), .one (qd 11 23 (.load none (T 22)) [22] []), .one (qd 12 24 (.load none (T 3)) [3] []), .one (qd 13 25 (.min [(T 23), (T 24)]) [23, 24] []), .one (qd 14 26 (.bin .leq .no (T 21) (T 25)) [21, 25] []), .one (qd 15 5 (mv 26) [26] [])])
 .ret))),
  27, [.tmp 5]⟩
noncomputable def c439 : AFn := ⟨(.seq (.region [⟨0, (some 3), none, (.n (.box 86 (T 1))), [], []⟩, ⟨1, (some 4), none, (.n (.alloc 474 [(.lit (.int .i64 (.ofNat 0))), (.lit (.int .i64 (.ofNat 0)))])), [], []⟩, q 2 5 (.move (.const (.slice none 0 0)))])
 (.seq (.region [q 0 11 (.load (some 15) (T 3)), ⟨1, (some 12), none, (.call 446 [(T 11)]), [], []⟩, q 2 10 (mv 12), q 3 13 (.extract (T 10) 0), q 4 14 (.extract (T 10) 1), ⟨5, none, none, (.e (.store 2 (T 4) (T 13))), [], []⟩])
 (.seq (.seq (.region [q 0 15 (mv 0), q 1 16 (.nilc (T 15)), q 2 17 (.faddr 6 (T 16)), q 3 18 (.faddr 1 (T 17)), q 4 19 (.load none (T 18)), q 5 20 (.len .sl (T 19)), q 6 21 (.move (I 0))])
 (.block 0 (.loop (.seq (.region [q 0 22 (.bin .lss .no (T 21) (T 20))])
 (.seq (.cond (T 22) .skip (.exit 0))
 (.seq (.block 1 (.seq (.region [q 0 23 (.iaddr (.sl 86 15) (T 19) (T 21)), q 1 24 (.load (some 15) (T 23)), ⟨2, (some 7), none, (.n (.alloc 86 [(.lit (bS [])), (.lit (.int .i64 (.ofNat 0))), (.lit (.int .i64 (.ofNat 0))), (.lit (.bool false)), (.lit (.bool false)), (.lit (.int .i64 (.ofNat 0))), (.lit (.int .i64 (.ofNat 0))), (.lit (.int .i64 (.ofNat 0))), (.sl 0 [] .full), (.lit (bS [])), (.lit (bS [])), (.lit (bS [])), (.sl 0 [] .full), (.lit (.int .i64 (.ofNat 0))), (.lit (.int .i64 (.ofNat 0)))])), [], []⟩, ⟨3, none, none, (.e (.store 15 (T 7) (T 24))), [], []⟩])
 (.seq (.region [q 0 25 (.faddr 1 (T 7)), q 1 26 (.load none (T 25)), q 2 27 (.bin .eql .no (T 26) (I 9)), q 3 28 (mv 27), qg 4 29 28 true (.faddr 10 (T 7)), qg 5 30 28 true (.load none (T 29)), qg 6 31 28 true (.faddr 0 (T 3)), qg 7 32 28 true (.load none (T 31)), qg 8 33 28 true (.bin .eql .no (T 30) (T 32)), q 9 34 (.pick (T 28) (T 33) (.const (.bool false)))])
 (.cond (T 34) (.seq (.region [q 0 35 (.faddr 12 (T 7)), q 1 36 (.load none (T 35)), q 2 37 (.len .sl (T 36)), q 3 38 (.move (I 0))])
 (.block 2 (.loop (.seq (.region [q 0 39 (.bin .lss .no (T 38) (T 37))])
 (.seq (.cond (T 39) .skip (.exit 2))
 (.seq (.block 3 (.seq (.region [q 0 40 (.iaddr (.sl 254 3) (T 36) (T 38)), q 1 41 (.load (some 3) (T 40)), ⟨2, (some 9), none, (.n (.alloc 254 [(.lit (.int .i64 (.ofNat 0))), (.lit (.int .i64 (.ofNat 0))), (.lit (bS []))])), [], []⟩, ⟨3, none, none, (.e (.store 3 (T 9) (T 41))), [], []⟩])
 (.region [q 0 42 (mv 5), q 1 43 (.faddr 0 (T 9)), q 2 44 (.load none (T 43)), q 3 45 (.faddr 1 (T 9)), q 4 46 (.load none (T 45)), q 5 47 (.build (.struct [(0, 1), (1, 1)]) [(.lit (.int .i64 (.ofNat 0))), (.lit (.int .i64 (.ofNat 0)))] [(0, (T 44)), (1, (T 46))]), q 6 48 (.bslice 2 1 [(0, (T 47))]), ⟨7, (some 49), none, (.e (.append 474 2 16 (T 42) (T 48))), [], []⟩, q 8 5 (mv 49)])))
 (.region [q 0 50 (.bin .add .no (T 38) (I 1)), q 1 38 (mv 50)]))))))) .skip))))
 (.region [q 0 51 (.bin .add .no (T 21) (I 1)), q 1 21 (mv 51)])))))))
 (.seq (.region [q 0 52 (.load (some 2) (T 4)), q 1 53 (mv 5), ⟨2, none, none, (.e (.store 2 (T 4) (T 52))), [], []⟩, q 3 5 (mv 53)])
 .ret)))),
  54, [.cell (some 2) 4, .tmp 5]⟩
noncomputable def c446 : AFn := ⟨(.seq (.region [⟨0, (some 1), none, (.n (.box 86 (T 0))), [], []⟩, ⟨1, (some 2), none, (.n (.alloc 474 [(.lit (.int .i64 (.ofNat 0))), (.lit (.int .i64 (.ofNat 0)))])), [], []⟩, q 2 3 (.move (I 0))])
 (.seq (.block 0 (.seq (.region [q 0 5 (.load (some 15) (T 1)), ⟨1, (some 6), none, (.call 137 [(T 5)]), [], []⟩, q 2 7 (.un .not (T 6)), q 3 4 (mv 7)])
 (.cond (T 4) (.seq (.region [q 0 8 (.build (.struct [(0, 1), (1, 1)]) [(.lit (.int .i64 (.ofNat 0))), (.lit (.int .i64 (.ofNat 0)))] []), ⟨1, none, none, (.e (.store 2 (T 2) (T 8))), [], []⟩, q 2 3 (.move (I 2))])
 .ret) (.seq (.region [q 0 10 (.faddr 1 (T 1)), q 1 11 (.load none (T 10)), q 2 12 (.bin .eql .no (T 11) (I 2)), q 3 9 (mv 12)])
 (.cond (T 9) (.seq (.region [q 0 13 (.faddr 5 (T 1)), q 1 14 (.load none (T 13)), q 2 15 (.faddr 5 (T 1)), q 3 16 (.load none (T 15)), q 4 17 (.build (.struct [(0, 1), (1, 1)]) [(.lit (.int .i64 (.ofNat 0))), (.lit (.int .i64 (.ofNat 0)))] [(0, (T 14)), (1, (T 16))]), ⟨5, none, none, (.e (.store 2 (T 2) (T 17))), [], []⟩, q 6 3 (.move (I 0))])
 .ret) .skip)))))
 (.seq (.region [q 0 18 (.faddr 5 (T 1)), q 1 19 (.load none (T 18)), q 2 20 (.faddr 6 (T 1)), q 3 21 (.load none (T 20)), q 4 22 (.build (.struct [(0, 1), (1, 1)]) [(.lit (.int .i64 (.ofNat 0))), (.lit (.int .i64 (.ofNat 0)))] [(0, (T 19)), (1, (T 21))]), ⟨5, none, none, (.e (.store 2 (T 2) (T 22))), [], []⟩, q 6 3 (.move (I 0))])
 .ret))),
  23, [.cell (some 2) 2, .tmp 3]⟩
noncomputable def d16 : ADFn := ⟨3, 2, (.seq (.region [q 0 4 (mv 2), q 1 5 (.bin .neq .ifc (T 4) (.const .nilIface))])
 (.cond (T 5) (.draw [.one (qd 0 6 (mv 2) [2] []), .one (qd 1 7 (.assert (.lit (.int .i64 (.ofNat 0))) 25 false (T 6)) [6] []), .one (⟨2, none, none, (.e (.store 1 (T 0) (.const (.slice none 0 0)))), [0], [1, 0]⟩), .one (⟨3, none, none, (.e (.store 1 (T 1) (T 7))), [1, 7], []⟩)]) .skip)), 8⟩
noncomputable def d109 : ADFn := ⟨3, 2, (.seq (.region [q 0 4 (mv 2), q 1 5 (.bin .neq .ifc (T 4) (.const .nilIface))])
 (.cond (T 5) (.seq (.region [q 0 7 (mv 2), q 1 8 (.assert (.agg [(.lit (.int .i64 (.ofNat 0))), (.lit (.int .i64 (.ofNat 0))), (.lit (.int .i64 (.ofNat 0)))]) 98 true (T 7)), q 2 6 (mv 8), q 3 9 (.extract (T 6) 0), q 4 10 (.extract (T 6) 1), ⟨5, none, none, (.e (.store 3 (T 0) (T 9))), [], []⟩, ⟨6, none, none, (.e (.store 1 (T 1) (T 10))), [], []⟩])
 (.seq (.region [q 0 11 (.load none (T 1)), q 1 12 (.un .not (T 11))])
 (.cond (T 12) (.region [q 0 13 (mv 2), ⟨1, none, none, (.panic (T 13)), [], []⟩]) .skip))) .skip)), 14⟩
noncomputable def d120 : ADFn := ⟨5, 2, (.seq (.region [q 0 6 (mv 2), q 1 7 (.bin .neq .ifc (T 6) (.const .nilIface))])
 (.cond (T 7) (.seq (.seq (.region [q 0 9 (mv 2), q 1 10 (.assert (.agg []) 233 true (T 9)), q 2 8 (mv 10), q 3 11 (.extract (T 8) 0), q 4 12 (.extract (T 8) 1), ⟨5, (some 3), none, (.n (.alloc 233 [])), [], []⟩, ⟨6, none, none, (.e (.store 0 (T 3) (T 11))), [], []⟩, q 7 4 (mv 12)])
 (.seq (.region [q 0 13 (mv 4), q 1 14 (.un .not (T 13))])
 (.cond (T 14) (.region [q 0 15 (mv 2), ⟨1, none, none, (.panic (T 15)), [], []⟩]) .skip)))
 (.region [q 0 16 (.build (.struct [(0, 1), (1, 1), (2, 1), (3, 1), (4, 1)]) [(.lit (bS [])), (.lit (.int .i64 (.ofNat 0))), (.sl 0 [] .full), (.sl 0 [] .full), (.sl 0 [] .full)] []), ⟨1, none, none, (.e (.store 5 (T 0) (T 16))), [], []⟩, ⟨2, none, none, (.e (.store 1 (T 1) (.const (.bool false)))), [], []⟩])) .skip)), 17⟩
noncomputable def d146 : ADFn := ⟨4, 1, (.seq (.region [q 0 5 (mv 1), q 1 6 (.bin .neq .ifc (T 5) (.const .nilIface))])
 (.cond (T 6) (.seq (.region [q 0 8 (mv 1), q 1 9 (.assert (.agg [(.lit (bS [])), (.lit (.int .i64 (.ofNat 0)))]) 191 true (T 8)), q 2 7 (mv 9), q 3 10 (.extract (T 7) 0), q 4 11 (.extract (T 7) 1), ⟨5, (some 2), none, (.n (.alloc 191 [(.lit (bS [])), (.lit (.int .i64 (.ofNat 0)))])), [], []⟩, ⟨6, none, none, (.e (.store 2 (T 2) (T 10))), [], []⟩, q 7 3 (mv 11)])
 (.seq (.seq (.region [q 0 12 (mv 3), q 1 13 (.un .not (T 12))])
 (.cond (T 13) (.region [q 0 14 (mv 1), ⟨1, none, none, (.panic (T 14)), [], []⟩]) .skip))
 (.region [q 0 15 (.load (some 2) (T 2)), ⟨1, none, none, (.e (.store 2 (T 0) (T 15))), [], []⟩]))) .skip)), 16⟩
noncomputable def d246 : ADFn := ⟨7, 4, (.seq (.region [q 0 8 (mv 4), q 1 9 (.bin .neq .ifc (T 8) (.const .nilIface))])
 (.cond (T 9) (.seq (.region [q 0 11 (mv 4), q 1 12 (.assert (.agg [(.lit (.int .i64 (.ofNat 0))), (.lit (.int .i64 (.ofNat 0))), (.lit (bS []))]) 155 true (T 11)), q 2 10 (mv 12), q 3 13 (.extract (T 10) 0), q 4 14 (.extract (T 10) 1), ⟨5, (some 5), none, (.n (.alloc 155 [(.lit (.int .i64 (.ofNat 0))), (.lit (.int .i64 (.ofNat 0))), (.lit (bS []))])), [], []⟩, ⟨6, none, none, (.e (.store 3 (T 5) (T 13))), [], []⟩, q 7 6 (mv 14)])
 (.seq (.seq (.region [q 0 15 (mv 6), q 1 16 (.un .not (T 15))])
 (.cond (T 16) (.region [q 0 17 (mv 4), ⟨1, none, none, (.panic (T 17)), [], []⟩]) .skip))
 (.draw [.one (q 0 18 (.build (.struct [(0, 1), (1, 1), (2, 1), (3, 1), (4, 1)]) [(.lit (bS [])), (.lit (.int .i64 (.ofNat 0))), (.sl 0 [] .full), (.sl 0 [] .full), (.sl 0 [] .full)] [])), .one (qd 1 19 (.load (some 3) (T 5)) [5] []), .one (qd 2 20 (.faddr 1 (T 5)) [5] []), .one (qd 3 21 (.load none (T 20)) [20] []), .one (⟨4, none, none, (.e (.store 5 (T 0) (T 18))), [0, 18], [3, 2, 1]⟩), .one (⟨5, none, none, (.e (.store 1 (T 1) (I 0))), [1], [3, 2, 1]⟩), .one (⟨6, none, none, (.e (.store 3 (T 2) (T 19))), [2, 19], [3, 2]⟩), .one (⟨7, none, none, (.e (.store 1 (T 3) (T 21))), [3, 21], []⟩)]))) .skip)), 22⟩
end Go.Proofs.YtjleeecaebgblaaGreatDoor.AL.K
