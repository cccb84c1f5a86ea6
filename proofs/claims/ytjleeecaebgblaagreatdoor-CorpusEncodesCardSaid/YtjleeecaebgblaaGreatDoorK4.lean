/- The functions are the program's. -/
import Derived.Test.YtjleeecaebgblaaGreatDoorK3
import Derived.KernelRfl
import Derived.Test.YtjleeecaebgblaaGreatDoorProg
set_option linter.all false
set_option maxRecDepth 100000
namespace Go.Proofs.YtjleeecaebgblaaGreatDoor.AL.K
open Go Go.Proofs.YtjleeecaebgblaaGreatDoor.AL Go.Proofs
theorem m3 : mkFn Tryz.prog (fun r i => (Nat.beq r 3 && Nat.beq i 1)) 3 = some c3 := by kernel_rfl
theorem k3 : callable Tryz.prog 3 = true := by kernel_rfl
theorem m4 : mkFn Tryz.prog (fun _ _ => false) 4 = some c4 := by kernel_rfl
theorem k4 : callable Tryz.prog 4 = true := by kernel_rfl
theorem m5 : mkFn Tryz.prog (fun _ _ => false) 5 = some c5 := by kernel_rfl
theorem k5 : callable Tryz.prog 5 = true := by kernel_rfl
theorem m6 : mkFn Tryz.prog (fun _ _ => false) 6 = some c6 := by kernel_rfl
theorem k6 : callable Tryz.prog 6 = true := by kernel_rfl
theorem m7 : mkFn Tryz.prog (fun _ _ => false) 7 = some c7 := by kernel_rfl
theorem k7 : callable Tryz.prog 7 = true := by kernel_rfl
theorem m8 : mkFn Tryz.prog (fun _ _ => false) 8 = some c8 := by kernel_rfl
theorem k8 : callable Tryz.prog 8 = true := by kernel_rfl
theorem m9 : mkFn Tryz.prog (fun _ _ => false) 9 = some c9 := by kernel_rfl
theorem k9 : callable Tryz.prog 9 = true := by kernel_rfl
theorem m10 : mkFn Tryz.prog (fun r i => (Nat.beq r 3 && Nat.beq i 0)) 10 = some c10 := by kernel_rfl
theorem k10 : callable Tryz.prog 10 = true := by kernel_rfl
theorem m11 : mkFn Tryz.prog (fun _ _ => false) 11 = some c11 := by kernel_rfl
theorem k11 : callable Tryz.prog 11 = true := by kernel_rfl
theorem m12 : mkFn Tryz.prog (fun _ _ => false) 12 = some c12 := by kernel_rfl
theorem k12 : callable Tryz.prog 12 = true := by kernel_rfl
theorem m13 : mkFn Tryz.prog (fun _ _ => false) 13 = some c13 := by kernel_rfl
theorem k13 : callable Tryz.prog 13 = true := by kernel_rfl
theorem m14 : mkFn Tryz.prog (fun _ _ => false) 14 = some c14 := by kernel_rfl
theorem k14 : callable Tryz.prog 14 = true := by kernel_rfl
theorem m15 : mkFn Tryz.prog (fun _ _ => false) 15 = some c15 := by kernel_rfl
theorem k15 : callable Tryz.prog 15 = true := by kernel_rfl
theorem m17 : mkFn Tryz.prog (fun _ _ => false) 17 = some c17 := by kernel_rfl
theorem k17 : callable Tryz.prog 17 = true := by kernel_rfl
theorem m18 : mkFn Tryz.prog (fun _ _ => false) 18 = some c18 := by kernel_rfl
theorem k18 : callable Tryz.prog 18 = true := by kernel_rfl
theorem m19 : mkFn Tryz.prog (fun _ _ => false) 19 = some c19 := by kernel_rfl
theorem k19 : callable Tryz.prog 19 = true := by kernel_rfl
theorem m20 : mkFn Tryz.prog (fun _ _ => false) 20 = some c20 := by kernel_rfl
theorem k20 : callable Tryz.prog 20 = true := by kernel_rfl
theorem m21 : mkFn Tryz.prog (fun _ _ => false) 21 = some c21 := by kernel_rfl
theorem k21 : callable Tryz.prog 21 = true := by kernel_rfl
theorem m22 : mkFn Tryz.prog (fun _ _ => false) 22 = some c22 := by kernel_rfl
theorem k22 : callable Tryz.prog 22 = true := by kernel_rfl
theorem m23 : mkFn Tryz.prog (fun _ _ => false) 23 = some c23 := by kernel_rfl
theorem k23 : callable Tryz.prog 23 = true := by kernel_rfl
theorem m24 : mkFn Tryz.prog (fun _ _ => false) 24 = some c24 := by kernel_rfl
theorem k24 : callable Tryz.prog 24 = true := by kernel_rfl
theorem m25 : mkFn Tryz.prog (fun _ _ => false) 25 = some c25 := by kernel_rfl
theorem k25 : callable Tryz.prog 25 = true := by kernel_rfl
theorem m26 : mkFn Tryz.prog (fun _ _ => false) 26 = some c26 := by kernel_rfl
theorem k26 : callable Tryz.prog 26 = true := by kernel_rfl
theorem m27 : mkFn Tryz.prog (fun _ _ => false) 27 = some c27 := by kernel_rfl
theorem k27 : callable Tryz.prog 27 = true := by kernel_rfl
theorem m28 : mkFn Tryz.prog (fun _ _ => false) 28 = some c28 := by kernel_rfl
theorem k28 : callable Tryz.prog 28 = true := by kernel_rfl
theorem m29 : mkFn Tryz.prog (fun _ _ => false) 29 = some c29 := by kernel_rfl
theorem k29 : callable Tryz.prog 29 = true := by kernel_rfl
theorem m30 : mkFn Tryz.prog (fun _ _ => false) 30 = some c30 := by kernel_rfl
theorem k30 : callable Tryz.prog 30 = true := by kernel_rfl
theorem m31 : mkFn Tryz.prog (fun _ _ => false) 31 = some c31 := by kernel_rfl
theorem k31 : callable Tryz.prog 31 = true := by kernel_rfl
theorem m32 : mkFn Tryz.prog (fun r i => (Nat.beq r 3 && Nat.beq i 2)) 32 = some c32 := by kernel_rfl
theorem k32 : callable Tryz.prog 32 = true := by kernel_rfl
theorem m33 : mkFn Tryz.prog (fun _ _ => false) 33 = some c33 := by kernel_rfl
theorem k33 : callable Tryz.prog 33 = true := by kernel_rfl
theorem m34 : mkFn Tryz.prog (fun _ _ => false) 34 = some c34 := by kernel_rfl
theorem k34 : callable Tryz.prog 34 = true := by kernel_rfl
theorem m35 : mkFn Tryz.prog (fun _ _ => false) 35 = some c35 := by kernel_rfl
theorem k35 : callable Tryz.prog 35 = true := by kernel_rfl
theorem m36 : mkFn Tryz.prog (fun _ _ => false) 36 = some c36 := by kernel_rfl
theorem k36 : callable Tryz.prog 36 = true := by kernel_rfl
theorem m37 : mkFn Tryz.prog (fun _ _ => false) 37 = some c37 := by kernel_rfl
theorem k37 : callable Tryz.prog 37 = true := by kernel_rfl
theorem m38 : mkFn Tryz.prog (fun _ _ => false) 38 = some c38 := by kernel_rfl
theorem k38 : callable Tryz.prog 38 = true := by kernel_rfl
theorem m39 : mkFn Tryz.prog (fun _ _ => false) 39 = some c39 := by kernel_rfl
theorem k39 : callable Tryz.prog 39 = true := by kernel_rfl
theorem m40 : mkFn Tryz.prog (fun _ _ => false) 40 = some c40 := by kernel_rfl
theorem k40 : callable Tryz.prog 40 = true := by kernel_rfl
theorem m41 : mkFn Tryz.prog (fun _ _ => false) 41 = some c41 := by kernel_rfl
theorem k41 : callable Tryz.prog 41 = true := by kernel_rfl
theorem m42 : mkFn Tryz.prog (fun _ _ => false) 42 = some c42 := by kernel_rfl
theorem k42 : callable Tryz.prog 42 = true := by kernel_rfl
theorem m43 : mkFn Tryz.prog (fun _ _ => false) 43 = some c43 := by kernel_rfl
theorem k43 : callable Tryz.prog 43 = true := by kernel_rfl
theorem m44 : mkFn Tryz.prog (fun _ _ => false) 44 = some c44 := by kernel_rfl
theorem k44 : callable Tryz.prog 44 = true := by kernel_rfl
theorem m45 : mkFn Tryz.prog (fun _ _ => false) 45 = some c45 := by kernel_rfl
theorem k45 : callable Tryz.prog 45 = true := by kernel_rfl
theorem m46 : mkFn Tryz.prog (fun _ _ => false) 46 = some c46 := by kernel_rfl
theorem k46 : callable Tryz.prog 46 = true := by kernel_rfl
theorem m47 : mkFn Tryz.prog (fun _ _ => false) 47 = some c47 := by kernel_rfl
theorem k47 : callable Tryz.prog 47 = true := by kernel_rfl
theorem m48 : mkFn Tryz.prog (fun _ _ => false) 48 = some c48 := by kernel_rfl
theorem k48 : callable Tryz.prog 48 = true := by kernel_rfl
theorem m49 : mkFn Tryz.prog (fun _ _ => false) 49 = some c49 := by kernel_rfl
theorem k49 : callable Tryz.prog 49 = true := by kernel_rfl
theorem m50 : mkFn Tryz.prog (fun _ _ => false) 50 = some c50 := by kernel_rfl
theorem k50 : callable Tryz.prog 50 = true := by kernel_rfl
theorem m52 : mkFn Tryz.prog (fun r i => (Nat.beq r 3 && Nat.beq i 2)) 52 = some c52 := by kernel_rfl
theorem k52 : callable Tryz.prog 52 = true := by kernel_rfl
theorem m53 : mkFn Tryz.prog (fun _ _ => false) 53 = some c53 := by kernel_rfl
theorem k53 : callable Tryz.prog 53 = true := by kernel_rfl
theorem m54 : mkFn Tryz.prog (fun _ _ => false) 54 = some c54 := by kernel_rfl
theorem k54 : callable Tryz.prog 54 = true := by kernel_rfl
theorem m55 : mkFn Tryz.prog (fun _ _ => false) 55 = some c55 := by kernel_rfl
theorem k55 : callable Tryz.prog 55 = true := by kernel_rfl
theorem m59 : mkFn Tryz.prog (fun r i => (Nat.beq r 10 && Nat.beq i 3) || (Nat.beq r 19 && Nat.beq i 8)) 59 = some c59 := by kernel_rfl
theorem k59 : callable Tryz.prog 59 = true := by kernel_rfl
theorem m60 : mkFn Tryz.prog (fun _ _ => false) 60 = some c60 := by kernel_rfl
theorem k60 : callable Tryz.prog 60 = true := by kernel_rfl
theorem m61 : mkFn Tryz.prog (fun _ _ => false) 61 = some c61 := by kernel_rfl
theorem k61 : callable Tryz.prog 61 = true := by kernel_rfl
theorem m62 : mkFn Tryz.prog (fun _ _ => false) 62 = some c62 := by kernel_rfl
theorem k62 : callable Tryz.prog 62 = true := by kernel_rfl
theorem m63 : mkFn Tryz.prog (fun _ _ => false) 63 = some c63 := by kernel_rfl
theorem k63 : callable Tryz.prog 63 = true := by kernel_rfl
theorem m64 : mkFn Tryz.prog (fun _ _ => false) 64 = some c64 := by kernel_rfl
theorem k64 : callable Tryz.prog 64 = true := by kernel_rfl
theorem m65 : mkFn Tryz.prog (fun _ _ => false) 65 = some c65 := by kernel_rfl
theorem k65 : callable Tryz.prog 65 = true := by kernel_rfl
theorem m66 : mkFn Tryz.prog (fun _ _ => false) 66 = some c66 := by kernel_rfl
theorem k66 : callable Tryz.prog 66 = true := by kernel_rfl
theorem m67 : mkFn Tryz.prog (fun _ _ => false) 67 = some c67 := by kernel_rfl
theorem k67 : callable Tryz.prog 67 = true := by kernel_rfl
theorem m68 : mkFn Tryz.prog (fun _ _ => false) 68 = some c68 := by kernel_rfl
theorem k68 : callable Tryz.prog 68 = true := by kernel_rfl
theorem m69 : mkFn Tryz.prog (fun _ _ => false) 69 = some c69 := by kernel_rfl
theorem k69 : callable Tryz.prog 69 = true := by kernel_rfl
theorem m71 : mkFn Tryz.prog (fun _ _ => false) 71 = some c71 := by kernel_rfl
theorem k71 : callable Tryz.prog 71 = true := by kernel_rfl
theorem m72 : mkFn Tryz.prog (fun _ _ => false) 72 = some c72 := by kernel_rfl
theorem k72 : callable Tryz.prog 72 = true := by kernel_rfl
theorem m74 : mkFn Tryz.prog (fun _ _ => false) 74 = some c74 := by kernel_rfl
theorem k74 : callable Tryz.prog 74 = true := by kernel_rfl
theorem m75 : mkFn Tryz.prog (fun _ _ => false) 75 = some c75 := by kernel_rfl
theorem k75 : callable Tryz.prog 75 = true := by kernel_rfl
theorem m76 : mkFn Tryz.prog (fun _ _ => false) 76 = some c76 := by kernel_rfl
theorem k76 : callable Tryz.prog 76 = true := by kernel_rfl
theorem m77 : mkFn Tryz.prog (fun _ _ => false) 77 = some c77 := by kernel_rfl
theorem k77 : callable Tryz.prog 77 = true := by kernel_rfl
theorem m78 : mkFn Tryz.prog (fun r i => (Nat.beq r 16 && Nat.beq i 5)) 78 = some c78 := by kernel_rfl
theorem k78 : callable Tryz.prog 78 = true := by kernel_rfl
theorem m79 : mkFn Tryz.prog (fun _ _ => false) 79 = some c79 := by kernel_rfl
theorem k79 : callable Tryz.prog 79 = true := by kernel_rfl
theorem m80 : mkFn Tryz.prog (fun _ _ => false) 80 = some c80 := by kernel_rfl
theorem k80 : callable Tryz.prog 80 = true := by kernel_rfl
theorem m81 : mkFn Tryz.prog (fun _ _ => false) 81 = some c81 := by kernel_rfl
theorem k81 : callable Tryz.prog 81 = true := by kernel_rfl
theorem m82 : mkFn Tryz.prog (fun _ _ => false) 82 = some c82 := by kernel_rfl
theorem k82 : callable Tryz.prog 82 = true := by kernel_rfl
theorem m83 : mkFn Tryz.prog (fun _ _ => false) 83 = some c83 := by kernel_rfl
theorem k83 : callable Tryz.prog 83 = true := by kernel_rfl
theorem m84 : mkFn Tryz.prog (fun _ _ => false) 84 = some c84 := by kernel_rfl
theorem k84 : callable Tryz.prog 84 = true := by kernel_rfl
theorem m85 : mkFn Tryz.prog (fun _ _ => false) 85 = some c85 := by kernel_rfl
theorem k85 : callable Tryz.prog 85 = true := by kernel_rfl
theorem m86 : mkFn Tryz.prog (fun _ _ => false) 86 = some c86 := by kernel_rfl
theorem k86 : callable Tryz.prog 86 = true := by kernel_rfl
theorem m87 : mkFn Tryz.prog (fun _ _ => false) 87 = some c87 := by kernel_rfl
theorem k87 : callable Tryz.prog 87 = true := by kernel_rfl
theorem m88 : mkFn Tryz.prog (fun r i => (Nat.beq r 10 && Nat.beq i 16)) 88 = some c88 := by kernel_rfl
theorem k88 : callable Tryz.prog 88 = true := by kernel_rfl
theorem m89 : mkFn Tryz.prog (fun _ _ => false) 89 = some c89 := by kernel_rfl
theorem k89 : callable Tryz.prog 89 = true := by kernel_rfl
theorem m90 : mkFn Tryz.prog (fun _ _ => false) 90 = some c90 := by kernel_rfl
theorem k90 : callable Tryz.prog 90 = true := by kernel_rfl
theorem m91 : mkFn Tryz.prog (fun _ _ => false) 91 = some c91 := by kernel_rfl
theorem k91 : callable Tryz.prog 91 = true := by kernel_rfl
theorem m92 : mkFn Tryz.prog (fun _ _ => false) 92 = some c92 := by kernel_rfl
theorem k92 : callable Tryz.prog 92 = true := by kernel_rfl
theorem m93 : mkFn Tryz.prog (fun _ _ => false) 93 = some c93 := by kernel_rfl
theorem k93 : callable Tryz.prog 93 = true := by kernel_rfl
theorem m96 : mkFn Tryz.prog (fun _ _ => false) 96 = some c96 := by kernel_rfl
theorem k96 : callable Tryz.prog 96 = true := by kernel_rfl
theorem m97 : mkFn Tryz.prog (fun _ _ => false) 97 = some c97 := by kernel_rfl
theorem k97 : callable Tryz.prog 97 = true := by kernel_rfl
theorem m98 : mkFn Tryz.prog (fun _ _ => false) 98 = some c98 := by kernel_rfl
theorem k98 : callable Tryz.prog 98 = true := by kernel_rfl
theorem m99 : mkFn Tryz.prog (fun _ _ => false) 99 = some c99 := by kernel_rfl
theorem k99 : callable Tryz.prog 99 = true := by kernel_rfl
theorem m100 : mkFn Tryz.prog (fun _ _ => false) 100 = some c100 := by kernel_rfl
theorem k100 : callable Tryz.prog 100 = true := by kernel_rfl
theorem m101 : mkFn Tryz.prog (fun _ _ => false) 101 = some c101 := by kernel_rfl
theorem k101 : callable Tryz.prog 101 = true := by kernel_rfl
theorem m102 : mkFn Tryz.prog (fun _ _ => false) 102 = some c102 := by kernel_rfl
theorem k102 : callable Tryz.prog 102 = true := by kernel_rfl
theorem m103 : mkFn Tryz.prog (fun _ _ => false) 103 = some c103 := by kernel_rfl
theorem k103 : callable Tryz.prog 103 = true := by kernel_rfl
theorem m105 : mkFn Tryz.prog (fun _ _ => false) 105 = some c105 := by kernel_rfl
theorem k105 : callable Tryz.prog 105 = true := by kernel_rfl
theorem m110 : mkFn Tryz.prog (fun _ _ => false) 110 = some c110 := by kernel_rfl
theorem k110 : callable Tryz.prog 110 = true := by kernel_rfl
theorem m111 : mkFn Tryz.prog (fun _ _ => false) 111 = some c111 := by kernel_rfl
theorem k111 : callable Tryz.prog 111 = true := by kernel_rfl
theorem m112 : mkFn Tryz.prog (fun _ _ => false) 112 = some c112 := by kernel_rfl
theorem k112 : callable Tryz.prog 112 = true := by kernel_rfl
theorem m113 : mkFn Tryz.prog (fun _ _ => false) 113 = some c113 := by kernel_rfl
theorem k113 : callable Tryz.prog 113 = true := by kernel_rfl
theorem m116 : mkFn Tryz.prog (fun _ _ => false) 116 = some c116 := by kernel_rfl
theorem k116 : callable Tryz.prog 116 = true := by kernel_rfl
theorem m117 : mkFn Tryz.prog (fun _ _ => false) 117 = some c117 := by kernel_rfl
theorem k117 : callable Tryz.prog 117 = true := by kernel_rfl
theorem m118 : mkFn Tryz.prog (fun _ _ => false) 118 = some c118 := by kernel_rfl
theorem k118 : callable Tryz.prog 118 = true := by kernel_rfl
theorem m119 : mkFn Tryz.prog (fun _ _ => false) 119 = some c119 := by kernel_rfl
theorem k119 : callable Tryz.prog 119 = true := by kernel_rfl
theorem m121 : mkFn Tryz.prog (fun _ _ => false) 121 = some c121 := by kernel_rfl
theorem k121 : callable Tryz.prog 121 = true := by kernel_rfl
theorem m127 : mkFn Tryz.prog (fun _ _ => false) 127 = some c127 := by kernel_rfl
theorem k127 : callable Tryz.prog 127 = true := by kernel_rfl
theorem m128 : mkFn Tryz.prog (fun _ _ => false) 128 = some c128 := by kernel_rfl
theorem k128 : callable Tryz.prog 128 = true := by kernel_rfl
theorem m129 : mkFn Tryz.prog (fun _ _ => false) 129 = some c129 := by kernel_rfl
theorem k129 : callable Tryz.prog 129 = true := by kernel_rfl
theorem m130 : mkFn Tryz.prog (fun _ _ => false) 130 = some c130 := by kernel_rfl
theorem k130 : callable Tryz.prog 130 = true := by kernel_rfl
theorem m131 : mkFn Tryz.prog (fun _ _ => false) 131 = some c131 := by kernel_rfl
theorem k131 : callable Tryz.prog 131 = true := by kernel_rfl
theorem m134 : mkFn Tryz.prog (fun _ _ => false) 134 = some c134 := by kernel_rfl
theorem k134 : callable Tryz.prog 134 = true := by kernel_rfl
theorem m135 : mkFn Tryz.prog (fun _ _ => false) 135 = some c135 := by kernel_rfl
theorem k135 : callable Tryz.prog 135 = true := by kernel_rfl
theorem m137 : mkFn Tryz.prog (fun _ _ => false) 137 = some c137 := by kernel_rfl
theorem k137 : callable Tryz.prog 137 = true := by kernel_rfl
theorem m145 : mkFn Tryz.prog (fun _ _ => false) 145 = some c145 := by kernel_rfl
theorem k145 : callable Tryz.prog 145 = true := by kernel_rfl
theorem m147 : mkFn Tryz.prog (fun _ _ => false) 147 = some c147 := by kernel_rfl
theorem k147 : callable Tryz.prog 147 = true := by kernel_rfl
theorem m148 : mkFn Tryz.prog (fun _ _ => false) 148 = some c148 := by kernel_rfl
theorem k148 : callable Tryz.prog 148 = true := by kernel_rfl
theorem m149 : mkFn Tryz.prog (fun _ _ => false) 149 = some c149 := by kernel_rfl
theorem k149 : callable Tryz.prog 149 = true := by kernel_rfl
theorem m150 : mkFn Tryz.prog (fun _ _ => false) 150 = some c150 := by kernel_rfl
theorem k150 : callable Tryz.prog 150 = true := by kernel_rfl
theorem m151 : mkFn Tryz.prog (fun _ _ => false) 151 = some c151 := by kernel_rfl
theorem k151 : callable Tryz.prog 151 = true := by kernel_rfl
theorem m152 : mkFn Tryz.prog (fun _ _ => false) 152 = some c152 := by kernel_rfl
theorem k152 : callable Tryz.prog 152 = true := by kernel_rfl
theorem m153 : mkFn Tryz.prog (fun _ _ => false) 153 = some c153 := by kernel_rfl
theorem k153 : callable Tryz.prog 153 = true := by kernel_rfl
theorem m155 : mkFn Tryz.prog (fun _ _ => false) 155 = some c155 := by kernel_rfl
theorem k155 : callable Tryz.prog 155 = true := by kernel_rfl
theorem m156 : mkFn Tryz.prog (fun _ _ => false) 156 = some c156 := by kernel_rfl
theorem k156 : callable Tryz.prog 156 = true := by kernel_rfl
theorem m166 : mkFn Tryz.prog (fun _ _ => false) 166 = some c166 := by kernel_rfl
theorem k166 : callable Tryz.prog 166 = true := by kernel_rfl
theorem m167 : mkFn Tryz.prog (fun _ _ => false) 167 = some c167 := by kernel_rfl
theorem k167 : callable Tryz.prog 167 = true := by kernel_rfl
theorem m168 : mkFn Tryz.prog (fun _ _ => false) 168 = some c168 := by kernel_rfl
theorem k168 : callable Tryz.prog 168 = true := by kernel_rfl
theorem m170 : mkFn Tryz.prog (fun _ _ => false) 170 = some c170 := by kernel_rfl
theorem k170 : callable Tryz.prog 170 = true := by kernel_rfl
theorem m171 : mkFn Tryz.prog (fun _ _ => false) 171 = some c171 := by kernel_rfl
theorem k171 : callable Tryz.prog 171 = true := by kernel_rfl
theorem m172 : mkFn Tryz.prog (fun r i => (Nat.beq r 3 && Nat.beq i 2)) 172 = some c172 := by kernel_rfl
theorem k172 : callable Tryz.prog 172 = true := by kernel_rfl
theorem m173 : mkFn Tryz.prog (fun _ _ => false) 173 = some c173 := by kernel_rfl
theorem k173 : callable Tryz.prog 173 = true := by kernel_rfl
theorem m175 : mkFn Tryz.prog (fun _ _ => false) 175 = some c175 := by kernel_rfl
theorem k175 : callable Tryz.prog 175 = true := by kernel_rfl
theorem m176 : mkFn Tryz.prog (fun _ _ => false) 176 = some c176 := by kernel_rfl
theorem k176 : callable Tryz.prog 176 = true := by kernel_rfl
theorem m177 : mkFn Tryz.prog (fun _ _ => false) 177 = some c177 := by kernel_rfl
theorem k177 : callable Tryz.prog 177 = true := by kernel_rfl
theorem m178 : mkFn Tryz.prog (fun _ _ => false) 178 = some c178 := by kernel_rfl
theorem k178 : callable Tryz.prog 178 = true := by kernel_rfl
theorem m179 : mkFn Tryz.prog (fun _ _ => false) 179 = some c179 := by kernel_rfl
theorem k179 : callable Tryz.prog 179 = true := by kernel_rfl
theorem m183 : mkFn Tryz.prog (fun _ _ => false) 183 = some c183 := by kernel_rfl
theorem k183 : callable Tryz.prog 183 = true := by kernel_rfl
theorem m184 : mkFn Tryz.prog (fun _ _ => false) 184 = some c184 := by kernel_rfl
theorem k184 : callable Tryz.prog 184 = true := by kernel_rfl
theorem m185 : mkFn Tryz.prog (fun _ _ => false) 185 = some c185 := by kernel_rfl
theorem k185 : callable Tryz.prog 185 = true := by kernel_rfl
theorem m186 : mkFn Tryz.prog (fun _ _ => false) 186 = some c186 := by kernel_rfl
theorem k186 : callable Tryz.prog 186 = true := by kernel_rfl
theorem m187 : mkFn Tryz.prog (fun _ _ => false) 187 = some c187 := by kernel_rfl
theorem k187 : callable Tryz.prog 187 = true := by kernel_rfl
theorem m188 : mkFn Tryz.prog (fun _ _ => false) 188 = some c188 := by kernel_rfl
theorem k188 : callable Tryz.prog 188 = true := by kernel_rfl
theorem m189 : mkFn Tryz.prog (fun _ _ => false) 189 = some c189 := by kernel_rfl
theorem k189 : callable Tryz.prog 189 = true := by kernel_rfl
theorem m191 : mkFn Tryz.prog (fun _ _ => false) 191 = some c191 := by kernel_rfl
theorem k191 : callable Tryz.prog 191 = true := by kernel_rfl
theorem m192 : mkFn Tryz.prog (fun _ _ => false) 192 = some c192 := by kernel_rfl
theorem k192 : callable Tryz.prog 192 = true := by kernel_rfl
theorem m193 : mkFn Tryz.prog (fun _ _ => false) 193 = some c193 := by kernel_rfl
theorem k193 : callable Tryz.prog 193 = true := by kernel_rfl
theorem m194 : mkFn Tryz.prog (fun _ _ => false) 194 = some c194 := by kernel_rfl
theorem k194 : callable Tryz.prog 194 = true := by kernel_rfl
theorem m195 : mkFn Tryz.prog (fun _ _ => false) 195 = some c195 := by kernel_rfl
theorem k195 : callable Tryz.prog 195 = true := by kernel_rfl
theorem m198 : mkFn Tryz.prog (fun _ _ => false) 198 = some c198 := by kernel_rfl
theorem k198 : callable Tryz.prog 198 = true := by kernel_rfl
theorem m200 : mkFn Tryz.prog (fun _ _ => false) 200 = some c200 := by kernel_rfl
theorem k200 : callable Tryz.prog 200 = true := by kernel_rfl
theorem m201 : mkFn Tryz.prog (fun _ _ => false) 201 = some c201 := by kernel_rfl
theorem k201 : callable Tryz.prog 201 = true := by kernel_rfl
theorem m202 : mkFn Tryz.prog (fun _ _ => false) 202 = some c202 := by kernel_rfl
theorem k202 : callable Tryz.prog 202 = true := by kernel_rfl
theorem m217 : mkFn Tryz.prog (fun _ _ => false) 217 = some c217 := by kernel_rfl
theorem k217 : callable Tryz.prog 217 = true := by kernel_rfl
theorem m218 : mkFn Tryz.prog (fun r i => (Nat.beq r 1 && Nat.beq i 4)) 218 = some c218 := by kernel_rfl
theorem k218 : callable Tryz.prog 218 = true := by kernel_rfl
theorem m219 : mkFn Tryz.prog (fun _ _ => false) 219 = some c219 := by kernel_rfl
theorem k219 : callable Tryz.prog 219 = true := by kernel_rfl
theorem m220 : mkFn Tryz.prog (fun _ _ => false) 220 = some c220 := by kernel_rfl
theorem k220 : callable Tryz.prog 220 = true := by kernel_rfl
theorem m222 : mkFn Tryz.prog (fun r i => (Nat.beq r 3 && Nat.beq i 6)) 222 = some c222 := by kernel_rfl
theorem k222 : callable Tryz.prog 222 = true := by kernel_rfl
theorem m232 : mkFn Tryz.prog (fun _ _ => false) 232 = some c232 := by kernel_rfl
theorem k232 : callable Tryz.prog 232 = true := by kernel_rfl
theorem m235 : mkFn Tryz.prog (fun _ _ => false) 235 = some c235 := by kernel_rfl
theorem k235 : callable Tryz.prog 235 = true := by kernel_rfl
theorem m241 : mkFn Tryz.prog (fun _ _ => false) 241 = some c241 := by kernel_rfl
theorem k241 : callable Tryz.prog 241 = true := by kernel_rfl
theorem m245 : mkFn Tryz.prog (fun _ _ => false) 245 = some c245 := by kernel_rfl
theorem k245 : callable Tryz.prog 245 = true := by kernel_rfl
theorem m247 : mkFn Tryz.prog (fun r i => (Nat.beq r 16 && Nat.beq i 7)) 247 = some c247 := by kernel_rfl
theorem k247 : callable Tryz.prog 247 = true := by kernel_rfl
theorem m251 : mkFn Tryz.prog (fun _ _ => false) 251 = some c251 := by kernel_rfl
theorem k251 : callable Tryz.prog 251 = true := by kernel_rfl
theorem m255 : mkFn Tryz.prog (fun _ _ => false) 255 = some c255 := by kernel_rfl
theorem k255 : callable Tryz.prog 255 = true := by kernel_rfl
theorem m257 : mkFn Tryz.prog (fun _ _ => false) 257 = some c257 := by kernel_rfl
theorem k257 : callable Tryz.prog 257 = true := by kernel_rfl
theorem m258 : mkFn Tryz.prog (fun _ _ => false) 258 = some c258 := by kernel_rfl
theorem k258 : callable Tryz.prog 258 = true := by kernel_rfl
theorem m262 : mkFn Tryz.prog (fun _ _ => false) 262 = some c262 := by kernel_rfl
theorem k262 : callable Tryz.prog 262 = true := by kernel_rfl
theorem m263 : mkFn Tryz.prog (fun _ _ => false) 263 = some c263 := by kernel_rfl
theorem k263 : callable Tryz.prog 263 = true := by kernel_rfl
theorem m264 : mkFn Tryz.prog (fun _ _ => false) 264 = some c264 := by kernel_rfl
theorem k264 : callable Tryz.prog 264 = true := by kernel_rfl
theorem m265 : mkFn Tryz.prog (fun _ _ => false) 265 = some c265 := by kernel_rfl
theorem k265 : callable Tryz.prog 265 = true := by kernel_rfl
theorem m266 : mkFn Tryz.prog (fun _ _ => false) 266 = some c266 := by kernel_rfl
theorem k266 : callable Tryz.prog 266 = true := by kernel_rfl
theorem m267 : mkFn Tryz.prog (fun _ _ => false) 267 = some c267 := by kernel_rfl
theorem k267 : callable Tryz.prog 267 = true := by kernel_rfl
theorem m270 : mkFn Tryz.prog (fun _ _ => false) 270 = some c270 := by kernel_rfl
theorem k270 : callable Tryz.prog 270 = true := by kernel_rfl
theorem m277 : mkFn Tryz.prog (fun _ _ => false) 277 = some c277 := by kernel_rfl
theorem k277 : callable Tryz.prog 277 = true := by kernel_rfl
theorem m278 : mkFn Tryz.prog (fun _ _ => false) 278 = some c278 := by kernel_rfl
theorem k278 : callable Tryz.prog 278 = true := by kernel_rfl
theorem m279 : mkFn Tryz.prog (fun _ _ => false) 279 = some c279 := by kernel_rfl
theorem k279 : callable Tryz.prog 279 = true := by kernel_rfl
theorem m300 : mkFn Tryz.prog (fun _ _ => false) 300 = some c300 := by kernel_rfl
theorem k300 : callable Tryz.prog 300 = true := by kernel_rfl
theorem m309 : mkFn Tryz.prog (fun _ _ => false) 309 = some c309 := by kernel_rfl
theorem k309 : callable Tryz.prog 309 = true := by kernel_rfl
theorem m310 : mkFn Tryz.prog (fun _ _ => false) 310 = some c310 := by kernel_rfl
theorem k310 : callable Tryz.prog 310 = true := by kernel_rfl
theorem m322 : mkFn Tryz.prog (fun _ _ => false) 322 = some c322 := by kernel_rfl
theorem k322 : callable Tryz.prog 322 = true := by kernel_rfl
theorem m323 : mkFn Tryz.prog (fun _ _ => false) 323 = some c323 := by kernel_rfl
theorem k323 : callable Tryz.prog 323 = true := by kernel_rfl
theorem m331 : mkFn Tryz.prog (fun _ _ => false) 331 = some c331 := by kernel_rfl
theorem k331 : callable Tryz.prog 331 = true := by kernel_rfl
theorem m334 : mkFn Tryz.prog (fun _ _ => false) 334 = some c334 := by kernel_rfl
theorem k334 : callable Tryz.prog 334 = true := by kernel_rfl
theorem m335 : mkFn Tryz.prog (fun _ _ => false) 335 = some c335 := by kernel_rfl
theorem k335 : callable Tryz.prog 335 = true := by kernel_rfl
theorem m336 : mkFn Tryz.prog (fun _ _ => false) 336 = some c336 := by kernel_rfl
theorem k336 : callable Tryz.prog 336 = true := by kernel_rfl
theorem m337 : mkFn Tryz.prog (fun _ _ => false) 337 = some c337 := by kernel_rfl
theorem k337 : callable Tryz.prog 337 = true := by kernel_rfl
theorem m338 : mkFn Tryz.prog (fun _ _ => false) 338 = some c338 := by kernel_rfl
theorem k338 : callable Tryz.prog 338 = true := by kernel_rfl
theorem m362 : mkFn Tryz.prog (fun _ _ => false) 362 = some c362 := by kernel_rfl
theorem k362 : callable Tryz.prog 362 = true := by kernel_rfl
theorem m363 : mkFn Tryz.prog (fun _ _ => false) 363 = some c363 := by kernel_rfl
theorem k363 : callable Tryz.prog 363 = true := by kernel_rfl
theorem m364 : mkFn Tryz.prog (fun _ _ => false) 364 = some c364 := by kernel_rfl
theorem k364 : callable Tryz.prog 364 = true := by kernel_rfl
theorem m367 : mkFn Tryz.prog (fun _ _ => false) 367 = some c367 := by kernel_rfl
theorem k367 : callable Tryz.prog 367 = true := by kernel_rfl
theorem m376 : mkFn Tryz.prog (fun _ _ => false) 376 = some c376 := by kernel_rfl
theorem k376 : callable Tryz.prog 376 = true := by kernel_rfl
theorem m377 : mkFn Tryz.prog (fun _ _ => false) 377 = some c377 := by kernel_rfl
theorem k377 : callable Tryz.prog 377 = true := by kernel_rfl
theorem m396 : mkFn Tryz.prog (fun _ _ => false) 396 = some c396 := by kernel_rfl
theorem k396 : callable Tryz.prog 396 = true := by kernel_rfl
theorem m397 : mkFn Tryz.prog (fun _ _ => false) 397 = some c397 := by kernel_rfl
theorem k397 : callable Tryz.prog 397 = true := by kernel_rfl
theorem m398 : mkFn Tryz.prog (fun _ _ => false) 398 = some c398 := by kernel_rfl
theorem k398 : callable Tryz.prog 398 = true := by kernel_rfl
theorem m400 : mkFn Tryz.prog (fun _ _ => false) 400 = some c400 := by kernel_rfl
theorem k400 : callable Tryz.prog 400 = true := by kernel_rfl
theorem m423 : mkFn Tryz.prog (fun _ _ => false) 423 = some c423 := by kernel_rfl
theorem k423 : callable Tryz.prog 423 = true := by kernel_rfl
theorem m437 : mkFn Tryz.prog (fun _ _ => false) 437 = some c437 := by kernel_rfl
theorem k437 : callable Tryz.prog 437 = true := by kernel_rfl
theorem m439 : mkFn Tryz.prog (fun _ _ => false) 439 = some c439 := by kernel_rfl
theorem k439 : callable Tryz.prog 439 = true := by kernel_rfl
theorem m446 : mkFn Tryz.prog (fun _ _ => false) 446 = some c446 := by kernel_rfl
theorem k446 : callable Tryz.prog 446 = true := by kernel_rfl
theorem n16 : mkDFn Tryz.prog (fun _ _ => false) 16 = some d16 := by kernel_rfl
theorem l16 : callable Tryz.prog 16 = true := by kernel_rfl
theorem n109 : mkDFn Tryz.prog (fun _ _ => false) 109 = some d109 := by kernel_rfl
theorem l109 : callable Tryz.prog 109 = true := by kernel_rfl
theorem n120 : mkDFn Tryz.prog (fun _ _ => false) 120 = some d120 := by kernel_rfl
theorem l120 : callable Tryz.prog 120 = true := by kernel_rfl
theorem n146 : mkDFn Tryz.prog (fun _ _ => false) 146 = some d146 := by kernel_rfl
theorem l146 : callable Tryz.prog 146 = true := by kernel_rfl
theorem n246 : mkDFn Tryz.prog (fun _ _ => false) 246 = some d246 := by kernel_rfl
theorem l246 : callable Tryz.prog 246 = true := by kernel_rfl
end Go.Proofs.YtjleeecaebgblaaGreatDoor.AL.K
