/- The functions are the program's. -/
import Derived.Test.YtkgbfadglaepfaaGreatDoorK3
import Derived.KernelRfl
import Derived.Test.YtkgbfadglaepfaaGreatDoorProg
set_option linter.all false
set_option maxRecDepth 100000
namespace Go.Proofs.YtkgbfadglaepfaaGreatDoor.AL.K
open Go Go.Proofs.YtkgbfadglaepfaaGreatDoor.AL Go.Proofs
theorem m3 : mkFn Tryz.prog (fun _ _ => false) 3 = some c3 := by kernel_rfl
theorem k3 : callable Tryz.prog 3 = true := by kernel_rfl
theorem m4 : mkFn Tryz.prog (fun _ _ => false) 4 = some c4 := by kernel_rfl
theorem k4 : callable Tryz.prog 4 = true := by kernel_rfl
theorem m5 : mkFn Tryz.prog (fun _ _ => false) 5 = some c5 := by kernel_rfl
theorem k5 : callable Tryz.prog 5 = true := by kernel_rfl
theorem m6 : mkFn Tryz.prog (fun _ _ => false) 6 = some c6 := by kernel_rfl
theorem k6 : callable Tryz.prog 6 = true := by kernel_rfl
theorem m7 : mkFn Tryz.prog (fun _ _ => false) 7 = some c7 := by kernel_rfl
theorem k7 : callable Tryz.prog 7 = true := by kernel_rfl
theorem m8 : mkFn Tryz.prog (fun _ _ => false) 8 = some c8 := by kernel_rfl
theorem k8 : callable Tryz.prog 8 = true := by kernel_rfl
theorem m9 : mkFn Tryz.prog (fun _ _ => false) 9 = some c9 := by kernel_rfl
theorem k9 : callable Tryz.prog 9 = true := by kernel_rfl
theorem m10 : mkFn Tryz.prog (fun _ _ => false) 10 = some c10 := by kernel_rfl
theorem k10 : callable Tryz.prog 10 = true := by kernel_rfl
theorem m12 : mkFn Tryz.prog (fun _ _ => false) 12 = some c12 := by kernel_rfl
theorem k12 : callable Tryz.prog 12 = true := by kernel_rfl
theorem m13 : mkFn Tryz.prog (fun _ _ => false) 13 = some c13 := by kernel_rfl
theorem k13 : callable Tryz.prog 13 = true := by kernel_rfl
theorem m14 : mkFn Tryz.prog (fun _ _ => false) 14 = some c14 := by kernel_rfl
theorem k14 : callable Tryz.prog 14 = true := by kernel_rfl
theorem m15 : mkFn Tryz.prog (fun _ _ => false) 15 = some c15 := by kernel_rfl
theorem k15 : callable Tryz.prog 15 = true := by kernel_rfl
theorem m16 : mkFn Tryz.prog (fun _ _ => false) 16 = some c16 := by kernel_rfl
theorem k16 : callable Tryz.prog 16 = true := by kernel_rfl
theorem m17 : mkFn Tryz.prog (fun _ _ => false) 17 = some c17 := by kernel_rfl
theorem k17 : callable Tryz.prog 17 = true := by kernel_rfl
theorem m18 : mkFn Tryz.prog (fun _ _ => false) 18 = some c18 := by kernel_rfl
theorem k18 : callable Tryz.prog 18 = true := by kernel_rfl
theorem m20 : mkFn Tryz.prog (fun r i => (Nat.beq r 10 && Nat.beq i 3) || (Nat.beq r 19 && Nat.beq i 8)) 20 = some c20 := by kernel_rfl
theorem k20 : callable Tryz.prog 20 = true := by kernel_rfl
theorem m21 : mkFn Tryz.prog (fun _ _ => false) 21 = some c21 := by kernel_rfl
theorem k21 : callable Tryz.prog 21 = true := by kernel_rfl
theorem m22 : mkFn Tryz.prog (fun _ _ => false) 22 = some c22 := by kernel_rfl
theorem k22 : callable Tryz.prog 22 = true := by kernel_rfl
theorem m23 : mkFn Tryz.prog (fun _ _ => false) 23 = some c23 := by kernel_rfl
theorem k23 : callable Tryz.prog 23 = true := by kernel_rfl
theorem m24 : mkFn Tryz.prog (fun _ _ => false) 24 = some c24 := by kernel_rfl
theorem k24 : callable Tryz.prog 24 = true := by kernel_rfl
theorem m25 : mkFn Tryz.prog (fun _ _ => false) 25 = some c25 := by kernel_rfl
theorem k25 : callable Tryz.prog 25 = true := by kernel_rfl
theorem m26 : mkFn Tryz.prog (fun _ _ => false) 26 = some c26 := by kernel_rfl
theorem k26 : callable Tryz.prog 26 = true := by kernel_rfl
theorem m27 : mkFn Tryz.prog (fun _ _ => false) 27 = some c27 := by kernel_rfl
theorem k27 : callable Tryz.prog 27 = true := by kernel_rfl
theorem m28 : mkFn Tryz.prog (fun _ _ => false) 28 = some c28 := by kernel_rfl
theorem k28 : callable Tryz.prog 28 = true := by kernel_rfl
theorem m29 : mkFn Tryz.prog (fun _ _ => false) 29 = some c29 := by kernel_rfl
theorem k29 : callable Tryz.prog 29 = true := by kernel_rfl
theorem m30 : mkFn Tryz.prog (fun _ _ => false) 30 = some c30 := by kernel_rfl
theorem k30 : callable Tryz.prog 30 = true := by kernel_rfl
theorem m31 : mkFn Tryz.prog (fun _ _ => false) 31 = some c31 := by kernel_rfl
theorem k31 : callable Tryz.prog 31 = true := by kernel_rfl
theorem m32 : mkFn Tryz.prog (fun _ _ => false) 32 = some c32 := by kernel_rfl
theorem k32 : callable Tryz.prog 32 = true := by kernel_rfl
theorem m33 : mkFn Tryz.prog (fun r i => (Nat.beq r 10 && Nat.beq i 16)) 33 = some c33 := by kernel_rfl
theorem k33 : callable Tryz.prog 33 = true := by kernel_rfl
theorem m34 : mkFn Tryz.prog (fun _ _ => false) 34 = some c34 := by kernel_rfl
theorem k34 : callable Tryz.prog 34 = true := by kernel_rfl
theorem m35 : mkFn Tryz.prog (fun _ _ => false) 35 = some c35 := by kernel_rfl
theorem k35 : callable Tryz.prog 35 = true := by kernel_rfl
theorem m36 : mkFn Tryz.prog (fun _ _ => false) 36 = some c36 := by kernel_rfl
theorem k36 : callable Tryz.prog 36 = true := by kernel_rfl
theorem m37 : mkFn Tryz.prog (fun _ _ => false) 37 = some c37 := by kernel_rfl
theorem k37 : callable Tryz.prog 37 = true := by kernel_rfl
theorem m38 : mkFn Tryz.prog (fun _ _ => false) 38 = some c38 := by kernel_rfl
theorem k38 : callable Tryz.prog 38 = true := by kernel_rfl
theorem m39 : mkFn Tryz.prog (fun _ _ => false) 39 = some c39 := by kernel_rfl
theorem k39 : callable Tryz.prog 39 = true := by kernel_rfl
theorem m40 : mkFn Tryz.prog (fun _ _ => false) 40 = some c40 := by kernel_rfl
theorem k40 : callable Tryz.prog 40 = true := by kernel_rfl
theorem m41 : mkFn Tryz.prog (fun _ _ => false) 41 = some c41 := by kernel_rfl
theorem k41 : callable Tryz.prog 41 = true := by kernel_rfl
theorem m42 : mkFn Tryz.prog (fun _ _ => false) 42 = some c42 := by kernel_rfl
theorem k42 : callable Tryz.prog 42 = true := by kernel_rfl
theorem m43 : mkFn Tryz.prog (fun _ _ => false) 43 = some c43 := by kernel_rfl
theorem k43 : callable Tryz.prog 43 = true := by kernel_rfl
theorem m44 : mkFn Tryz.prog (fun r i => (Nat.beq r 3 && Nat.beq i 2)) 44 = some c44 := by kernel_rfl
theorem k44 : callable Tryz.prog 44 = true := by kernel_rfl
theorem m45 : mkFn Tryz.prog (fun _ _ => false) 45 = some c45 := by kernel_rfl
theorem k45 : callable Tryz.prog 45 = true := by kernel_rfl
theorem m46 : mkFn Tryz.prog (fun _ _ => false) 46 = some c46 := by kernel_rfl
theorem k46 : callable Tryz.prog 46 = true := by kernel_rfl
theorem m47 : mkFn Tryz.prog (fun _ _ => false) 47 = some c47 := by kernel_rfl
theorem k47 : callable Tryz.prog 47 = true := by kernel_rfl
theorem m48 : mkFn Tryz.prog (fun _ _ => false) 48 = some c48 := by kernel_rfl
theorem k48 : callable Tryz.prog 48 = true := by kernel_rfl
theorem m49 : mkFn Tryz.prog (fun _ _ => false) 49 = some c49 := by kernel_rfl
theorem k49 : callable Tryz.prog 49 = true := by kernel_rfl
theorem m50 : mkFn Tryz.prog (fun _ _ => false) 50 = some c50 := by kernel_rfl
theorem k50 : callable Tryz.prog 50 = true := by kernel_rfl
theorem m51 : mkFn Tryz.prog (fun _ _ => false) 51 = some c51 := by kernel_rfl
theorem k51 : callable Tryz.prog 51 = true := by kernel_rfl
theorem m52 : mkFn Tryz.prog (fun _ _ => false) 52 = some c52 := by kernel_rfl
theorem k52 : callable Tryz.prog 52 = true := by kernel_rfl
theorem m54 : mkFn Tryz.prog (fun _ _ => false) 54 = some c54 := by kernel_rfl
theorem k54 : callable Tryz.prog 54 = true := by kernel_rfl
theorem m55 : mkFn Tryz.prog (fun _ _ => false) 55 = some c55 := by kernel_rfl
theorem k55 : callable Tryz.prog 55 = true := by kernel_rfl
theorem m56 : mkFn Tryz.prog (fun _ _ => false) 56 = some c56 := by kernel_rfl
theorem k56 : callable Tryz.prog 56 = true := by kernel_rfl
theorem m57 : mkFn Tryz.prog (fun _ _ => false) 57 = some c57 := by kernel_rfl
theorem k57 : callable Tryz.prog 57 = true := by kernel_rfl
theorem m58 : mkFn Tryz.prog (fun _ _ => false) 58 = some c58 := by kernel_rfl
theorem k58 : callable Tryz.prog 58 = true := by kernel_rfl
theorem m59 : mkFn Tryz.prog (fun _ _ => false) 59 = some c59 := by kernel_rfl
theorem k59 : callable Tryz.prog 59 = true := by kernel_rfl
theorem m61 : mkFn Tryz.prog (fun _ _ => false) 61 = some c61 := by kernel_rfl
theorem k61 : callable Tryz.prog 61 = true := by kernel_rfl
theorem m62 : mkFn Tryz.prog (fun _ _ => false) 62 = some c62 := by kernel_rfl
theorem k62 : callable Tryz.prog 62 = true := by kernel_rfl
theorem m63 : mkFn Tryz.prog (fun _ _ => false) 63 = some c63 := by kernel_rfl
theorem k63 : callable Tryz.prog 63 = true := by kernel_rfl
theorem m64 : mkFn Tryz.prog (fun _ _ => false) 64 = some c64 := by kernel_rfl
theorem k64 : callable Tryz.prog 64 = true := by kernel_rfl
theorem m65 : mkFn Tryz.prog (fun _ _ => false) 65 = some c65 := by kernel_rfl
theorem k65 : callable Tryz.prog 65 = true := by kernel_rfl
theorem m67 : mkFn Tryz.prog (fun r i => (Nat.beq r 3 && Nat.beq i 2)) 67 = some c67 := by kernel_rfl
theorem k67 : callable Tryz.prog 67 = true := by kernel_rfl
theorem m70 : mkFn Tryz.prog (fun _ _ => false) 70 = some c70 := by kernel_rfl
theorem k70 : callable Tryz.prog 70 = true := by kernel_rfl
theorem m71 : mkFn Tryz.prog (fun _ _ => false) 71 = some c71 := by kernel_rfl
theorem k71 : callable Tryz.prog 71 = true := by kernel_rfl
theorem m72 : mkFn Tryz.prog (fun r i => (Nat.beq r 3 && Nat.beq i 2)) 72 = some c72 := by kernel_rfl
theorem k72 : callable Tryz.prog 72 = true := by kernel_rfl
theorem m73 : mkFn Tryz.prog (fun _ _ => false) 73 = some c73 := by kernel_rfl
theorem k73 : callable Tryz.prog 73 = true := by kernel_rfl
theorem m74 : mkFn Tryz.prog (fun _ _ => false) 74 = some c74 := by kernel_rfl
theorem k74 : callable Tryz.prog 74 = true := by kernel_rfl
theorem m75 : mkFn Tryz.prog (fun _ _ => false) 75 = some c75 := by kernel_rfl
theorem k75 : callable Tryz.prog 75 = true := by kernel_rfl
theorem m76 : mkFn Tryz.prog (fun _ _ => false) 76 = some c76 := by kernel_rfl
theorem k76 : callable Tryz.prog 76 = true := by kernel_rfl
theorem m77 : mkFn Tryz.prog (fun _ _ => false) 77 = some c77 := by kernel_rfl
theorem k77 : callable Tryz.prog 77 = true := by kernel_rfl
theorem m78 : mkFn Tryz.prog (fun _ _ => false) 78 = some c78 := by kernel_rfl
theorem k78 : callable Tryz.prog 78 = true := by kernel_rfl
theorem m79 : mkFn Tryz.prog (fun _ _ => false) 79 = some c79 := by kernel_rfl
theorem k79 : callable Tryz.prog 79 = true := by kernel_rfl
theorem m81 : mkFn Tryz.prog (fun r i => (Nat.beq r 16 && Nat.beq i 7)) 81 = some c81 := by kernel_rfl
theorem k81 : callable Tryz.prog 81 = true := by kernel_rfl
theorem m82 : mkFn Tryz.prog (fun _ _ => false) 82 = some c82 := by kernel_rfl
theorem k82 : callable Tryz.prog 82 = true := by kernel_rfl
theorem m83 : mkFn Tryz.prog (fun _ _ => false) 83 = some c83 := by kernel_rfl
theorem k83 : callable Tryz.prog 83 = true := by kernel_rfl
theorem m89 : mkFn Tryz.prog (fun _ _ => false) 89 = some c89 := by kernel_rfl
theorem k89 : callable Tryz.prog 89 = true := by kernel_rfl
theorem m90 : mkFn Tryz.prog (fun _ _ => false) 90 = some c90 := by kernel_rfl
theorem k90 : callable Tryz.prog 90 = true := by kernel_rfl
theorem m92 : mkFn Tryz.prog (fun _ _ => false) 92 = some c92 := by kernel_rfl
theorem k92 : callable Tryz.prog 92 = true := by kernel_rfl
theorem m93 : mkFn Tryz.prog (fun _ _ => false) 93 = some c93 := by kernel_rfl
theorem k93 : callable Tryz.prog 93 = true := by kernel_rfl
theorem m94 : mkFn Tryz.prog (fun _ _ => false) 94 = some c94 := by kernel_rfl
theorem k94 : callable Tryz.prog 94 = true := by kernel_rfl
theorem m95 : mkFn Tryz.prog (fun _ _ => false) 95 = some c95 := by kernel_rfl
theorem k95 : callable Tryz.prog 95 = true := by kernel_rfl
theorem m96 : mkFn Tryz.prog (fun _ _ => false) 96 = some c96 := by kernel_rfl
theorem k96 : callable Tryz.prog 96 = true := by kernel_rfl
theorem m97 : mkFn Tryz.prog (fun _ _ => false) 97 = some c97 := by kernel_rfl
theorem k97 : callable Tryz.prog 97 = true := by kernel_rfl
theorem m102 : mkFn Tryz.prog (fun _ _ => false) 102 = some c102 := by kernel_rfl
theorem k102 : callable Tryz.prog 102 = true := by kernel_rfl
theorem m105 : mkFn Tryz.prog (fun _ _ => false) 105 = some c105 := by kernel_rfl
theorem k105 : callable Tryz.prog 105 = true := by kernel_rfl
theorem m106 : mkFn Tryz.prog (fun _ _ => false) 106 = some c106 := by kernel_rfl
theorem k106 : callable Tryz.prog 106 = true := by kernel_rfl
theorem m107 : mkFn Tryz.prog (fun _ _ => false) 107 = some c107 := by kernel_rfl
theorem k107 : callable Tryz.prog 107 = true := by kernel_rfl
theorem m113 : mkFn Tryz.prog (fun _ _ => false) 113 = some c113 := by kernel_rfl
theorem k113 : callable Tryz.prog 113 = true := by kernel_rfl
theorem m117 : mkFn Tryz.prog (fun _ _ => false) 117 = some c117 := by kernel_rfl
theorem k117 : callable Tryz.prog 117 = true := by kernel_rfl
theorem m118 : mkFn Tryz.prog (fun _ _ => false) 118 = some c118 := by kernel_rfl
theorem k118 : callable Tryz.prog 118 = true := by kernel_rfl
theorem m119 : mkFn Tryz.prog (fun _ _ => false) 119 = some c119 := by kernel_rfl
theorem k119 : callable Tryz.prog 119 = true := by kernel_rfl
theorem m120 : mkFn Tryz.prog (fun _ _ => false) 120 = some c120 := by kernel_rfl
theorem k120 : callable Tryz.prog 120 = true := by kernel_rfl
theorem m121 : mkFn Tryz.prog (fun _ _ => false) 121 = some c121 := by kernel_rfl
theorem k121 : callable Tryz.prog 121 = true := by kernel_rfl
theorem m122 : mkFn Tryz.prog (fun _ _ => false) 122 = some c122 := by kernel_rfl
theorem k122 : callable Tryz.prog 122 = true := by kernel_rfl
theorem m123 : mkFn Tryz.prog (fun _ _ => false) 123 = some c123 := by kernel_rfl
theorem k123 : callable Tryz.prog 123 = true := by kernel_rfl
theorem m124 : mkFn Tryz.prog (fun _ _ => false) 124 = some c124 := by kernel_rfl
theorem k124 : callable Tryz.prog 124 = true := by kernel_rfl
theorem m125 : mkFn Tryz.prog (fun _ _ => false) 125 = some c125 := by kernel_rfl
theorem k125 : callable Tryz.prog 125 = true := by kernel_rfl
theorem m126 : mkFn Tryz.prog (fun _ _ => false) 126 = some c126 := by kernel_rfl
theorem k126 : callable Tryz.prog 126 = true := by kernel_rfl
theorem m127 : mkFn Tryz.prog (fun _ _ => false) 127 = some c127 := by kernel_rfl
theorem k127 : callable Tryz.prog 127 = true := by kernel_rfl
theorem m128 : mkFn Tryz.prog (fun _ _ => false) 128 = some c128 := by kernel_rfl
theorem k128 : callable Tryz.prog 128 = true := by kernel_rfl
theorem m129 : mkFn Tryz.prog (fun _ _ => false) 129 = some c129 := by kernel_rfl
theorem k129 : callable Tryz.prog 129 = true := by kernel_rfl
theorem m130 : mkFn Tryz.prog (fun _ _ => false) 130 = some c130 := by kernel_rfl
theorem k130 : callable Tryz.prog 130 = true := by kernel_rfl
theorem m132 : mkFn Tryz.prog (fun _ _ => false) 132 = some c132 := by kernel_rfl
theorem k132 : callable Tryz.prog 132 = true := by kernel_rfl
theorem m139 : mkFn Tryz.prog (fun _ _ => false) 139 = some c139 := by kernel_rfl
theorem k139 : callable Tryz.prog 139 = true := by kernel_rfl
theorem m141 : mkFn Tryz.prog (fun _ _ => false) 141 = some c141 := by kernel_rfl
theorem k141 : callable Tryz.prog 141 = true := by kernel_rfl
theorem m142 : mkFn Tryz.prog (fun _ _ => false) 142 = some c142 := by kernel_rfl
theorem k142 : callable Tryz.prog 142 = true := by kernel_rfl
theorem m143 : mkFn Tryz.prog (fun _ _ => false) 143 = some c143 := by kernel_rfl
theorem k143 : callable Tryz.prog 143 = true := by kernel_rfl
theorem m144 : mkFn Tryz.prog (fun _ _ => false) 144 = some c144 := by kernel_rfl
theorem k144 : callable Tryz.prog 144 = true := by kernel_rfl
theorem m145 : mkFn Tryz.prog (fun _ _ => false) 145 = some c145 := by kernel_rfl
theorem k145 : callable Tryz.prog 145 = true := by kernel_rfl
theorem m150 : mkFn Tryz.prog (fun _ _ => false) 150 = some c150 := by kernel_rfl
theorem k150 : callable Tryz.prog 150 = true := by kernel_rfl
theorem m151 : mkFn Tryz.prog (fun _ _ => false) 151 = some c151 := by kernel_rfl
theorem k151 : callable Tryz.prog 151 = true := by kernel_rfl
theorem m152 : mkFn Tryz.prog (fun _ _ => false) 152 = some c152 := by kernel_rfl
theorem k152 : callable Tryz.prog 152 = true := by kernel_rfl
theorem m153 : mkFn Tryz.prog (fun _ _ => false) 153 = some c153 := by kernel_rfl
theorem k153 : callable Tryz.prog 153 = true := by kernel_rfl
theorem m154 : mkFn Tryz.prog (fun _ _ => false) 154 = some c154 := by kernel_rfl
theorem k154 : callable Tryz.prog 154 = true := by kernel_rfl
theorem m155 : mkFn Tryz.prog (fun _ _ => false) 155 = some c155 := by kernel_rfl
theorem k155 : callable Tryz.prog 155 = true := by kernel_rfl
theorem m156 : mkFn Tryz.prog (fun _ _ => false) 156 = some c156 := by kernel_rfl
theorem k156 : callable Tryz.prog 156 = true := by kernel_rfl
theorem m161 : mkFn Tryz.prog (fun _ _ => false) 161 = some c161 := by kernel_rfl
theorem k161 : callable Tryz.prog 161 = true := by kernel_rfl
theorem m163 : mkFn Tryz.prog (fun _ _ => false) 163 = some c163 := by kernel_rfl
theorem k163 : callable Tryz.prog 163 = true := by kernel_rfl
theorem m164 : mkFn Tryz.prog (fun _ _ => false) 164 = some c164 := by kernel_rfl
theorem k164 : callable Tryz.prog 164 = true := by kernel_rfl
theorem m171 : mkFn Tryz.prog (fun _ _ => false) 171 = some c171 := by kernel_rfl
theorem k171 : callable Tryz.prog 171 = true := by kernel_rfl
theorem m173 : mkFn Tryz.prog (fun _ _ => false) 173 = some c173 := by kernel_rfl
theorem k173 : callable Tryz.prog 173 = true := by kernel_rfl
theorem m174 : mkFn Tryz.prog (fun _ _ => false) 174 = some c174 := by kernel_rfl
theorem k174 : callable Tryz.prog 174 = true := by kernel_rfl
theorem m175 : mkFn Tryz.prog (fun _ _ => false) 175 = some c175 := by kernel_rfl
theorem k175 : callable Tryz.prog 175 = true := by kernel_rfl
theorem m177 : mkFn Tryz.prog (fun _ _ => false) 177 = some c177 := by kernel_rfl
theorem k177 : callable Tryz.prog 177 = true := by kernel_rfl
theorem m178 : mkFn Tryz.prog (fun _ _ => false) 178 = some c178 := by kernel_rfl
theorem k178 : callable Tryz.prog 178 = true := by kernel_rfl
theorem m179 : mkFn Tryz.prog (fun _ _ => false) 179 = some c179 := by kernel_rfl
theorem k179 : callable Tryz.prog 179 = true := by kernel_rfl
theorem m180 : mkFn Tryz.prog (fun _ _ => false) 180 = some c180 := by kernel_rfl
theorem k180 : callable Tryz.prog 180 = true := by kernel_rfl
theorem m181 : mkFn Tryz.prog (fun _ _ => false) 181 = some c181 := by kernel_rfl
theorem k181 : callable Tryz.prog 181 = true := by kernel_rfl
theorem m182 : mkFn Tryz.prog (fun _ _ => false) 182 = some c182 := by kernel_rfl
theorem k182 : callable Tryz.prog 182 = true := by kernel_rfl
theorem m184 : mkFn Tryz.prog (fun _ _ => false) 184 = some c184 := by kernel_rfl
theorem k184 : callable Tryz.prog 184 = true := by kernel_rfl
theorem m186 : mkFn Tryz.prog (fun _ _ => false) 186 = some c186 := by kernel_rfl
theorem k186 : callable Tryz.prog 186 = true := by kernel_rfl
theorem m188 : mkFn Tryz.prog (fun _ _ => false) 188 = some c188 := by kernel_rfl
theorem k188 : callable Tryz.prog 188 = true := by kernel_rfl
theorem m192 : mkFn Tryz.prog (fun _ _ => false) 192 = some c192 := by kernel_rfl
theorem k192 : callable Tryz.prog 192 = true := by kernel_rfl
theorem m193 : mkFn Tryz.prog (fun _ _ => false) 193 = some c193 := by kernel_rfl
theorem k193 : callable Tryz.prog 193 = true := by kernel_rfl
theorem m197 : mkFn Tryz.prog (fun _ _ => false) 197 = some c197 := by kernel_rfl
theorem k197 : callable Tryz.prog 197 = true := by kernel_rfl
theorem m201 : mkFn Tryz.prog (fun _ _ => false) 201 = some c201 := by kernel_rfl
theorem k201 : callable Tryz.prog 201 = true := by kernel_rfl
theorem m202 : mkFn Tryz.prog (fun _ _ => false) 202 = some c202 := by kernel_rfl
theorem k202 : callable Tryz.prog 202 = true := by kernel_rfl
theorem m203 : mkFn Tryz.prog (fun _ _ => false) 203 = some c203 := by kernel_rfl
theorem k203 : callable Tryz.prog 203 = true := by kernel_rfl
theorem m204 : mkFn Tryz.prog (fun _ _ => false) 204 = some c204 := by kernel_rfl
theorem k204 : callable Tryz.prog 204 = true := by kernel_rfl
theorem m206 : mkFn Tryz.prog (fun _ _ => false) 206 = some c206 := by kernel_rfl
theorem k206 : callable Tryz.prog 206 = true := by kernel_rfl
theorem m211 : mkFn Tryz.prog (fun _ _ => false) 211 = some c211 := by kernel_rfl
theorem k211 : callable Tryz.prog 211 = true := by kernel_rfl
theorem m216 : mkFn Tryz.prog (fun _ _ => false) 216 = some c216 := by kernel_rfl
theorem k216 : callable Tryz.prog 216 = true := by kernel_rfl
theorem m217 : mkFn Tryz.prog (fun _ _ => false) 217 = some c217 := by kernel_rfl
theorem k217 : callable Tryz.prog 217 = true := by kernel_rfl
theorem m218 : mkFn Tryz.prog (fun _ _ => false) 218 = some c218 := by kernel_rfl
theorem k218 : callable Tryz.prog 218 = true := by kernel_rfl
theorem m227 : mkFn Tryz.prog (fun _ _ => false) 227 = some c227 := by kernel_rfl
theorem k227 : callable Tryz.prog 227 = true := by kernel_rfl
theorem m228 : mkFn Tryz.prog (fun _ _ => false) 228 = some c228 := by kernel_rfl
theorem k228 : callable Tryz.prog 228 = true := by kernel_rfl
theorem m229 : mkFn Tryz.prog (fun _ _ => false) 229 = some c229 := by kernel_rfl
theorem k229 : callable Tryz.prog 229 = true := by kernel_rfl
theorem m232 : mkFn Tryz.prog (fun _ _ => false) 232 = some c232 := by kernel_rfl
theorem k232 : callable Tryz.prog 232 = true := by kernel_rfl
theorem m236 : mkFn Tryz.prog (fun _ _ => false) 236 = some c236 := by kernel_rfl
theorem k236 : callable Tryz.prog 236 = true := by kernel_rfl
theorem m240 : mkFn Tryz.prog (fun _ _ => false) 240 = some c240 := by kernel_rfl
theorem k240 : callable Tryz.prog 240 = true := by kernel_rfl
theorem m241 : mkFn Tryz.prog (fun _ _ => false) 241 = some c241 := by kernel_rfl
theorem k241 : callable Tryz.prog 241 = true := by kernel_rfl
theorem m242 : mkFn Tryz.prog (fun _ _ => false) 242 = some c242 := by kernel_rfl
theorem k242 : callable Tryz.prog 242 = true := by kernel_rfl
theorem m250 : mkFn Tryz.prog (fun _ _ => false) 250 = some c250 := by kernel_rfl
theorem k250 : callable Tryz.prog 250 = true := by kernel_rfl
theorem m251 : mkFn Tryz.prog (fun r i => (Nat.beq r 3 && Nat.beq i 6)) 251 = some c251 := by kernel_rfl
theorem k251 : callable Tryz.prog 251 = true := by kernel_rfl
theorem m252 : mkFn Tryz.prog (fun r i => (Nat.beq r 0 && Nat.beq i 6)) 252 = some c252 := by kernel_rfl
theorem k252 : callable Tryz.prog 252 = true := by kernel_rfl
theorem m255 : mkFn Tryz.prog (fun _ _ => false) 255 = some c255 := by kernel_rfl
theorem k255 : callable Tryz.prog 255 = true := by kernel_rfl
theorem m260 : mkFn Tryz.prog (fun _ _ => false) 260 = some c260 := by kernel_rfl
theorem k260 : callable Tryz.prog 260 = true := by kernel_rfl
theorem m261 : mkFn Tryz.prog (fun _ _ => false) 261 = some c261 := by kernel_rfl
theorem k261 : callable Tryz.prog 261 = true := by kernel_rfl
theorem m266 : mkFn Tryz.prog (fun _ _ => false) 266 = some c266 := by kernel_rfl
theorem k266 : callable Tryz.prog 266 = true := by kernel_rfl
theorem m268 : mkFn Tryz.prog (fun _ _ => false) 268 = some c268 := by kernel_rfl
theorem k268 : callable Tryz.prog 268 = true := by kernel_rfl
theorem m269 : mkFn Tryz.prog (fun _ _ => false) 269 = some c269 := by kernel_rfl
theorem k269 : callable Tryz.prog 269 = true := by kernel_rfl
theorem m273 : mkFn Tryz.prog (fun _ _ => false) 273 = some c273 := by kernel_rfl
theorem k273 : callable Tryz.prog 273 = true := by kernel_rfl
theorem m274 : mkFn Tryz.prog (fun _ _ => false) 274 = some c274 := by kernel_rfl
theorem k274 : callable Tryz.prog 274 = true := by kernel_rfl
theorem m275 : mkFn Tryz.prog (fun _ _ => false) 275 = some c275 := by kernel_rfl
theorem k275 : callable Tryz.prog 275 = true := by kernel_rfl
theorem m276 : mkFn Tryz.prog (fun _ _ => false) 276 = some c276 := by kernel_rfl
theorem k276 : callable Tryz.prog 276 = true := by kernel_rfl
theorem m278 : mkFn Tryz.prog (fun _ _ => false) 278 = some c278 := by kernel_rfl
theorem k278 : callable Tryz.prog 278 = true := by kernel_rfl
theorem m280 : mkFn Tryz.prog (fun _ _ => false) 280 = some c280 := by kernel_rfl
theorem k280 : callable Tryz.prog 280 = true := by kernel_rfl
theorem m281 : mkFn Tryz.prog (fun _ _ => false) 281 = some c281 := by kernel_rfl
theorem k281 : callable Tryz.prog 281 = true := by kernel_rfl
theorem m282 : mkFn Tryz.prog (fun _ _ => false) 282 = some c282 := by kernel_rfl
theorem k282 : callable Tryz.prog 282 = true := by kernel_rfl
theorem m283 : mkFn Tryz.prog (fun _ _ => false) 283 = some c283 := by kernel_rfl
theorem k283 : callable Tryz.prog 283 = true := by kernel_rfl
theorem m295 : mkFn Tryz.prog (fun _ _ => false) 295 = some c295 := by kernel_rfl
theorem k295 : callable Tryz.prog 295 = true := by kernel_rfl
theorem m301 : mkFn Tryz.prog (fun _ _ => false) 301 = some c301 := by kernel_rfl
theorem k301 : callable Tryz.prog 301 = true := by kernel_rfl
theorem m302 : mkFn Tryz.prog (fun _ _ => false) 302 = some c302 := by kernel_rfl
theorem k302 : callable Tryz.prog 302 = true := by kernel_rfl
theorem m303 : mkFn Tryz.prog (fun _ _ => false) 303 = some c303 := by kernel_rfl
theorem k303 : callable Tryz.prog 303 = true := by kernel_rfl
theorem m304 : mkFn Tryz.prog (fun _ _ => false) 304 = some c304 := by kernel_rfl
theorem k304 : callable Tryz.prog 304 = true := by kernel_rfl
theorem m305 : mkFn Tryz.prog (fun r i => (Nat.beq r 1 && Nat.beq i 4)) 305 = some c305 := by kernel_rfl
theorem k305 : callable Tryz.prog 305 = true := by kernel_rfl
theorem m316 : mkFn Tryz.prog (fun _ _ => false) 316 = some c316 := by kernel_rfl
theorem k316 : callable Tryz.prog 316 = true := by kernel_rfl
theorem m317 : mkFn Tryz.prog (fun _ _ => false) 317 = some c317 := by kernel_rfl
theorem k317 : callable Tryz.prog 317 = true := by kernel_rfl
theorem m318 : mkFn Tryz.prog (fun _ _ => false) 318 = some c318 := by kernel_rfl
theorem k318 : callable Tryz.prog 318 = true := by kernel_rfl
theorem m319 : mkFn Tryz.prog (fun _ _ => false) 319 = some c319 := by kernel_rfl
theorem k319 : callable Tryz.prog 319 = true := by kernel_rfl
theorem m320 : mkFn Tryz.prog (fun _ _ => false) 320 = some c320 := by kernel_rfl
theorem k320 : callable Tryz.prog 320 = true := by kernel_rfl
theorem m321 : mkFn Tryz.prog (fun _ _ => false) 321 = some c321 := by kernel_rfl
theorem k321 : callable Tryz.prog 321 = true := by kernel_rfl
theorem m324 : mkFn Tryz.prog (fun _ _ => false) 324 = some c324 := by kernel_rfl
theorem k324 : callable Tryz.prog 324 = true := by kernel_rfl
theorem m325 : mkFn Tryz.prog (fun _ _ => false) 325 = some c325 := by kernel_rfl
theorem k325 : callable Tryz.prog 325 = true := by kernel_rfl
theorem m339 : mkFn Tryz.prog (fun _ _ => false) 339 = some c339 := by kernel_rfl
theorem k339 : callable Tryz.prog 339 = true := by kernel_rfl
theorem m340 : mkFn Tryz.prog (fun _ _ => false) 340 = some c340 := by kernel_rfl
theorem k340 : callable Tryz.prog 340 = true := by kernel_rfl
theorem m343 : mkFn Tryz.prog (fun _ _ => false) 343 = some c343 := by kernel_rfl
theorem k343 : callable Tryz.prog 343 = true := by kernel_rfl
theorem m344 : mkFn Tryz.prog (fun _ _ => false) 344 = some c344 := by kernel_rfl
theorem k344 : callable Tryz.prog 344 = true := by kernel_rfl
theorem m345 : mkFn Tryz.prog (fun _ _ => false) 345 = some c345 := by kernel_rfl
theorem k345 : callable Tryz.prog 345 = true := by kernel_rfl
theorem m347 : mkFn Tryz.prog (fun _ _ => false) 347 = some c347 := by kernel_rfl
theorem k347 : callable Tryz.prog 347 = true := by kernel_rfl
theorem m348 : mkFn Tryz.prog (fun _ _ => false) 348 = some c348 := by kernel_rfl
theorem k348 : callable Tryz.prog 348 = true := by kernel_rfl
theorem m358 : mkFn Tryz.prog (fun _ _ => false) 358 = some c358 := by kernel_rfl
theorem k358 : callable Tryz.prog 358 = true := by kernel_rfl
theorem m359 : mkFn Tryz.prog (fun _ _ => false) 359 = some c359 := by kernel_rfl
theorem k359 : callable Tryz.prog 359 = true := by kernel_rfl
theorem m360 : mkFn Tryz.prog (fun _ _ => false) 360 = some c360 := by kernel_rfl
theorem k360 : callable Tryz.prog 360 = true := by kernel_rfl
theorem m361 : mkFn Tryz.prog (fun _ _ => false) 361 = some c361 := by kernel_rfl
theorem k361 : callable Tryz.prog 361 = true := by kernel_rfl
theorem m362 : mkFn Tryz.prog (fun _ _ => false) 362 = some c362 := by kernel_rfl
theorem k362 : callable Tryz.prog 362 = true := by kernel_rfl
theorem m363 : mkFn Tryz.prog (fun _ _ => false) 363 = some c363 := by kernel_rfl
theorem k363 : callable Tryz.prog 363 = true := by kernel_rfl
theorem m364 : mkFn Tryz.prog (fun _ _ => false) 364 = some c364 := by kernel_rfl
theorem k364 : callable Tryz.prog 364 = true := by kernel_rfl
theorem m365 : mkFn Tryz.prog (fun _ _ => false) 365 = some c365 := by kernel_rfl
theorem k365 : callable Tryz.prog 365 = true := by kernel_rfl
theorem m366 : mkFn Tryz.prog (fun _ _ => false) 366 = some c366 := by kernel_rfl
theorem k366 : callable Tryz.prog 366 = true := by kernel_rfl
theorem m382 : mkFn Tryz.prog (fun _ _ => false) 382 = some c382 := by kernel_rfl
theorem k382 : callable Tryz.prog 382 = true := by kernel_rfl
theorem m383 : mkFn Tryz.prog (fun _ _ => false) 383 = some c383 := by kernel_rfl
theorem k383 : callable Tryz.prog 383 = true := by kernel_rfl
theorem m385 : mkFn Tryz.prog (fun _ _ => false) 385 = some c385 := by kernel_rfl
theorem k385 : callable Tryz.prog 385 = true := by kernel_rfl
theorem m386 : mkFn Tryz.prog (fun _ _ => false) 386 = some c386 := by kernel_rfl
theorem k386 : callable Tryz.prog 386 = true := by kernel_rfl
theorem m387 : mkFn Tryz.prog (fun _ _ => false) 387 = some c387 := by kernel_rfl
theorem k387 : callable Tryz.prog 387 = true := by kernel_rfl
theorem m388 : mkFn Tryz.prog (fun _ _ => false) 388 = some c388 := by kernel_rfl
theorem k388 : callable Tryz.prog 388 = true := by kernel_rfl
theorem m389 : mkFn Tryz.prog (fun _ _ => false) 389 = some c389 := by kernel_rfl
theorem k389 : callable Tryz.prog 389 = true := by kernel_rfl
theorem m395 : mkFn Tryz.prog (fun _ _ => false) 395 = some c395 := by kernel_rfl
theorem k395 : callable Tryz.prog 395 = true := by kernel_rfl
theorem m396 : mkFn Tryz.prog (fun _ _ => false) 396 = some c396 := by kernel_rfl
theorem k396 : callable Tryz.prog 396 = true := by kernel_rfl
theorem m397 : mkFn Tryz.prog (fun _ _ => false) 397 = some c397 := by kernel_rfl
theorem k397 : callable Tryz.prog 397 = true := by kernel_rfl
theorem m401 : mkFn Tryz.prog (fun _ _ => false) 401 = some c401 := by kernel_rfl
theorem k401 : callable Tryz.prog 401 = true := by kernel_rfl
theorem m402 : mkFn Tryz.prog (fun _ _ => false) 402 = some c402 := by kernel_rfl
theorem k402 : callable Tryz.prog 402 = true := by kernel_rfl
theorem m403 : mkFn Tryz.prog (fun _ _ => false) 403 = some c403 := by kernel_rfl
theorem k403 : callable Tryz.prog 403 = true := by kernel_rfl
theorem m404 : mkFn Tryz.prog (fun _ _ => false) 404 = some c404 := by kernel_rfl
theorem k404 : callable Tryz.prog 404 = true := by kernel_rfl
theorem m405 : mkFn Tryz.prog (fun _ _ => false) 405 = some c405 := by kernel_rfl
theorem k405 : callable Tryz.prog 405 = true := by kernel_rfl
theorem m410 : mkFn Tryz.prog (fun _ _ => false) 410 = some c410 := by kernel_rfl
theorem k410 : callable Tryz.prog 410 = true := by kernel_rfl
theorem n11 : mkDFn Tryz.prog (fun _ _ => false) 11 = some d11 := by kernel_rfl
theorem l11 : callable Tryz.prog 11 = true := by kernel_rfl
theorem n80 : mkDFn Tryz.prog (fun _ _ => false) 80 = some d80 := by kernel_rfl
theorem l80 : callable Tryz.prog 80 = true := by kernel_rfl
theorem n172 : mkDFn Tryz.prog (fun _ _ => false) 172 = some d172 := by kernel_rfl
theorem l172 : callable Tryz.prog 172 = true := by kernel_rfl
theorem n249 : mkDFn Tryz.prog (fun _ _ => false) 249 = some d249 := by kernel_rfl
theorem l249 : callable Tryz.prog 249 = true := by kernel_rfl
end Go.Proofs.YtkgbfadglaepfaaGreatDoor.AL.K
