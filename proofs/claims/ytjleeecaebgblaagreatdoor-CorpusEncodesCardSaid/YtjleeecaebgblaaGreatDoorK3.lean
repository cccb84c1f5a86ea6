/- The table of the functions. -/
import Derived.Test.YtjleeecaebgblaaGreatDoorK0
import Derived.Test.YtjleeecaebgblaaGreatDoorK1
set_option linter.all false
set_option maxRecDepth 100000
set_option maxHeartbeats 4000000
namespace Go.Proofs.YtjleeecaebgblaaGreatDoor.AL.K
open Go Go.Proofs.YtjleeecaebgblaaGreatDoor.AL
noncomputable def N0 : Tn (Option AFn) 0 := .leaf none
noncomputable def N1 : Tn (Option AFn) 1 := .node N0 N0
noncomputable def N2 : Tn (Option AFn) 2 := .node N1 N1
noncomputable def N3 : Tn (Option AFn) 3 := .node N2 N2
noncomputable def N4 : Tn (Option AFn) 4 := .node N3 N3
noncomputable def N5 : Tn (Option AFn) 5 := .node N4 N4
noncomputable def N6 : Tn (Option AFn) 6 := .node N5 N5
noncomputable def N7 : Tn (Option AFn) 7 := .node N6 N6
noncomputable def N8 : Tn (Option AFn) 8 := .node N7 N7
noncomputable def N9 : Tn (Option AFn) 9 := .node N8 N8
noncomputable def O0 : Tn (Option ADFn) 0 := .leaf none
noncomputable def O1 : Tn (Option ADFn) 1 := .node O0 O0
noncomputable def O2 : Tn (Option ADFn) 2 := .node O1 O1
noncomputable def O3 : Tn (Option ADFn) 3 := .node O2 O2
noncomputable def O4 : Tn (Option ADFn) 4 := .node O3 O3
noncomputable def O5 : Tn (Option ADFn) 5 := .node O4 O4
noncomputable def O6 : Tn (Option ADFn) 6 := .node O5 O5
noncomputable def O7 : Tn (Option ADFn) 7 := .node O6 O6
noncomputable def O8 : Tn (Option ADFn) 8 := .node O7 O7
noncomputable def O9 : Tn (Option ADFn) 9 := .node O8 O8
noncomputable def fns : Tn (Option AFn) 9 := (.node (.node (.node (.node (.node (.node (.node (.node N1 (.node (.leaf (some c128)) N0)) (.node (.node (.leaf (some c64)) N0) (.node (.leaf (some c192)) N0))) (.node (.node (.node (.leaf (some c32)) N0) N1) (.node (.node (.leaf (some c96)) N0) N1))) (.node (.node (.node N1 (.node N0 (.leaf (some c400)))) (.node (.node (.leaf (some c80)) (.leaf (some c336))) N1)) (.node (.node (.node (.leaf (some c48)) N0) (.node (.leaf (some c176)) N0)) (.node (.node (.leaf (some c112)) N0) N1)))) (.node (.node (.node (.node (.node (.leaf (some c8)) (.leaf (some c264))) N1) (.node (.node (.leaf (some c72)) N0) (.node (.leaf (some c200)) N0))) (.node (.node (.node (.leaf (some c40)) N0) (.node (.leaf (some c168)) N0)) (.node N1 (.node (.leaf (some c232)) N0)))) (.node (.node (.node (.node (.leaf (some c24)) N0) (.node (.leaf (some c152)) N0)) (.node (.node (.leaf (some c88)) N0) N1)) (.node (.node N1 (.node (.leaf (some c184)) N0)) (.node (.node N0 (.leaf (some c376))) N1))))) (.node (.node (.node (.node (.node (.node (.leaf (some c4)) N0) N1) (.node (.node (.leaf (some c68)) N0) N1)) (.node (.node (.node (.leaf (some c36)) N0) N1) (.node (.node (.leaf (some c100)) N0) N1))) (.node (.node (.node (.node (.leaf (some c20)) N0) (.node (.leaf (some c148)) N0)) (.node (.node (.leaf (some c84)) N0) N1)) (.node (.node (.node (.leaf (some c52)) N0) N1) (.node (.node (.leaf (some c116)) N0) N1)))) (.node (.node (.node (.node (.node (.leaf (some c12)) N0) (.node N0 (.leaf (some c396)))) (.node (.node (.leaf (some c76)) N0) N1)) (.node (.node (.node (.leaf (some c44)) (.leaf (some c300))) (.node (.leaf (some c172)) N0)) (.node (.node N0 (.leaf (some c364))) N1))) (.node (.node (.node (.node (.leaf (some c28)) N0) (.node (.leaf (some c156)) N0)) (.node (.node (.leaf (some c92)) N0) (.node (.leaf (some c220)) N0))) (.node (.node (.node (.leaf (some c60)) N0) (.node (.leaf (some c188)) N0)) N2))))) (.node (.node (.node (.node (.node (.node (.node N0 (.leaf (some c258))) (.node (.leaf (some c130)) N0)) (.node (.node (.leaf (some c66)) (.leaf (some c322))) (.node (.leaf (some c194)) N0))) (.node (.node (.node (.leaf (some c34)) N0) N1) (.node (.node (.leaf (some c98)) N0) N1))) (.node (.node (.node (.node (.leaf (some c18)) N0) N1) (.node (.node (.leaf (some c82)) (.leaf (some c338))) N1)) (.node (.node (.node (.leaf (some c50)) N0) (.node (.leaf (some c178)) N0)) N2))) (.node (.node (.node (.node (.node (.leaf (some c10)) (.leaf (some c266))) N1) (.node (.node (.leaf (some c74)) N0) (.node (.leaf (some c202)) N0))) (.node (.node (.node (.leaf (some c42)) N0) (.node (.leaf (some c170)) N0)) (.node (.node N0 (.leaf (some c362))) N1))) (.node (.node (.node (.node (.leaf (some c26)) N0) N1) (.node (.node (.leaf (some c90)) N0) (.node (.leaf (some c218)) N0))) (.node (.node N1 (.node (.leaf (some c186)) N0)) N2)))) (.node (.node (.node (.node (.node (.node (.leaf (some c6)) (.leaf (some c262))) (.node (.leaf (some c134)) N0)) (.node N1 (.node (.leaf (some c198)) N0))) (.node (.node (.node (.leaf (some c38)) N0) (.node (.leaf (some c166)) N0)) (.node (.node (.leaf (some c102)) N0) N1))) (.node (.node (.node (.node (.leaf (some c22)) (.leaf (some c278))) (.node (.leaf (some c150)) N0)) (.node (.node (.leaf (some c86)) N0) N1)) (.node (.node (.node (.leaf (some c54)) (.leaf (some c310))) N1) (.node (.node (.leaf (some c118)) N0) N1)))) (.node (.node (.node (.node (.node (.leaf (some c14)) (.leaf (some c270))) (.node N0 (.leaf (some c398)))) (.node (.node (.leaf (some c78)) (.leaf (some c334))) N1)) (.node (.node (.node (.leaf (some c46)) N0) N1) (.node (.node (.leaf (some c110)) N0) N1))) (.node (.node (.node (.node (.leaf (some c30)) N0) N1) (.node N1 (.node (.leaf (some c222)) N0))) (.node (.node (.node (.leaf (some c62)) N0) (.node N0 (.leaf (some c446)))) N2)))))) (.node (.node (.node (.node (.node (.node (.node (.node N0 (.leaf (some c257))) (.node (.leaf (some c129)) N0)) (.node (.node (.leaf (some c65)) N0) (.node (.leaf (some c193)) N0))) (.node (.node (.node (.leaf (some c33)) N0) N1) (.node (.node (.leaf (some c97)) N0) N1))) (.node (.node (.node (.node (.leaf (some c17)) N0) (.node (.leaf (some c145)) N0)) (.node (.node (.leaf (some c81)) (.leaf (some c337))) N1)) (.node (.node (.node (.leaf (some c49)) N0) (.node (.leaf (some c177)) N0)) (.node (.node (.leaf (some c113)) N0) (.node (.leaf (some c241)) N0))))) (.node (.node (.node (.node (.node (.leaf (some c9)) (.leaf (some c265))) (.node (.leaf (some c137)) N0)) (.node N1 (.node (.leaf (some c201)) N0))) (.node (.node (.node (.leaf (some c41)) N0) N1) (.node (.node (.leaf (some c105)) N0) N1))) (.node (.node (.node (.node (.leaf (some c25)) N0) (.node (.leaf (some c153)) N0)) (.node (.node (.leaf (some c89)) N0) (.node (.leaf (some c217)) N0))) (.node (.node N1 (.node (.leaf (some c185)) N0)) (.node (.node (.leaf (some c121)) (.leaf (some c377))) N1))))) (.node (.node (.node (.node (.node (.node (.leaf (some c5)) N0) N1) (.node (.node (.leaf (some c69)) N0) N1)) (.node (.node (.node (.leaf (some c37)) N0) N1) (.node (.node (.leaf (some c101)) N0) N1))) (.node (.node (.node (.node (.leaf (some c21)) (.leaf (some c277))) (.node (.leaf (some c149)) N0)) (.node (.node (.leaf (some c85)) N0) N1)) (.node (.node (.node (.leaf (some c53)) (.leaf (some c309))) (.node N0 (.leaf (some c437)))) (.node (.node (.leaf (some c117)) N0) (.node (.leaf (some c245)) N0))))) (.node (.node (.node (.node (.node (.leaf (some c13)) N0) (.node N0 (.leaf (some c397)))) (.node (.node (.leaf (some c77)) N0) N1)) (.node (.node (.node (.leaf (some c45)) N0) (.node (.leaf (some c173)) N0)) N2)) (.node (.node (.node (.node (.leaf (some c29)) N0) N1) (.node (.node (.leaf (some c93)) N0) N1)) (.node (.node (.node (.leaf (some c61)) N0) (.node (.leaf (some c189)) N0)) N2))))) (.node (.node (.node (.node (.node (.node (.node (.leaf (some c3)) N0) (.node (.leaf (some c131)) N0)) (.node (.node (.leaf (some c67)) (.leaf (some c323))) (.node (.leaf (some c195)) N0))) (.node (.node (.node (.leaf (some c35)) N0) N1) (.node (.node (.leaf (some c99)) N0) N1))) (.node (.node (.node (.node (.leaf (some c19)) N0) (.node (.leaf (some c147)) N0)) (.node (.node (.leaf (some c83)) N0) N1)) (.node (.node N1 (.node (.leaf (some c179)) N0)) N2))) (.node (.node (.node (.node (.node (.leaf (some c11)) (.leaf (some c267))) N1) (.node (.node (.leaf (some c75)) (.leaf (some c331))) N1)) (.node (.node (.node (.leaf (some c43)) N0) (.node (.leaf (some c171)) N0)) (.node (.node N0 (.leaf (some c363))) (.node (.leaf (some c235)) N0)))) (.node (.node (.node (.node (.leaf (some c27)) N0) (.node (.leaf (some c155)) N0)) (.node (.node (.leaf (some c91)) N0) (.node (.leaf (some c219)) N0))) (.node (.node (.node (.leaf (some c59)) N0) (.node (.leaf (some c187)) N0)) (.node N1 (.node (.leaf (some c251)) N0)))))) (.node (.node (.node (.node (.node (.node (.leaf (some c7)) (.leaf (some c263))) (.node (.leaf (some c135)) N0)) (.node (.node (.leaf (some c71)) N0) N1)) (.node (.node (.node (.leaf (some c39)) N0) (.node (.leaf (some c167)) (.leaf (some c423)))) (.node (.node (.leaf (some c103)) N0) N1))) (.node (.node (.node (.node (.leaf (some c23)) (.leaf (some c279))) (.node (.leaf (some c151)) N0)) (.node (.node (.leaf (some c87)) N0) N1)) (.node (.node (.node (.leaf (some c55)) N0) (.node (.leaf (some c183)) (.leaf (some c439)))) (.node (.node (.leaf (some c119)) N0) (.node (.leaf (some c247)) N0))))) (.node (.node (.node (.node (.node (.leaf (some c15)) N0) N1) (.node (.node (.leaf (some c79)) (.leaf (some c335))) N1)) (.node (.node (.node (.leaf (some c47)) N0) (.node (.leaf (some c175)) N0)) (.node (.node (.leaf (some c111)) (.leaf (some c367))) N1))) (.node (.node (.node (.node (.leaf (some c31)) N0) N1) N2) (.node (.node (.node (.leaf (some c63)) N0) (.node (.leaf (some c191)) N0)) (.node (.node (.leaf (some c127)) N0) (.node (.leaf (some c255)) N0)))))))))
noncomputable def dfns : Tn (Option ADFn) 9 := (.node (.node (.node (.node (.node O4 (.node (.node (.node (.node (.leaf (some d16)) O0) O1) O2) O3)) (.node O4 (.node O3 (.node O2 (.node (.node (.leaf (some d120)) O0) O1))))) O6) (.node (.node (.node O4 (.node (.node (.node O1 (.node (.leaf (some d146)) O0)) O2) O3)) O5) (.node (.node O4 (.node O3 (.node O2 (.node O1 (.node (.leaf (some d246)) O0))))) O5))) (.node (.node O6 (.node O5 (.node (.node O3 (.node O2 (.node (.node (.leaf (some d109)) O0) O1))) O4))) O7))
noncomputable def sampleV : AVal := (.agg [(.lit (bS [100])), (.sl 1 [(.lit (bS [109])), (.sl 1 [(.lit (bS [97])), (.lit (.int .i64 (.ofNat 1))), (.lit (.int .i64 (.ofNat 8))), (.lit (.bool false)), (.lit (.bool false)), (.lit (.int .i64 (.ofNat 1))), (.lit (.int .i64 (.ofNat 2))), (.lit (.int .i64 (.ofNat 0))), (.sl 0 [] .full), (.lit (bS [])), (.lit (bS [])), (.lit (bS [])), (.sl 0 [] .full), (.lit (.int .i64 (.ofNat 0))), (.lit (.int .i64 (.ofNat 0)))] .full)] .full), (.lit (bS [109]))])
noncomputable def checkV : AVal := (.tup [(.agg [(.lit (.int .i64 (.ofNat 0))), (.lit (.int .i64 (.ofNat 0))), (.lit (.int .i64 (.ofNat 0)))]), (.lit (.bool false))])
noncomputable def isClone (f : Nat) : Bool := Nat.beq f 32 || Nat.beq f 51 || Nat.beq f 52 || Nat.beq f 172 || Nat.beq f 371
/-- What is known beforehand: clones of nothing. -/
noncomputable def memo0 (f : FuncId) (args : List AVal) : Option AVal :=
  match args with
  | [.sl 0 [] _] => match isClone f with
    | true => some (.sl 0 [] .full)
    | false => none
  | _ => none
/-- And the sample's check. -/
noncomputable def memo1 (f : FuncId) (args : List AVal) : Option AVal :=
  match args with
  | [.sl 0 [] _] => match isClone f with
    | true => some (.sl 0 [] .full)
    | false => none
  | [d] => match Nat.beq f 43 with
    | true => match sameX d sampleV with
      | true => some checkV
      | false => none
    | false => none
  | _ => none
noncomputable def tab0 : XTab := { memo := memo0, fn := fun f => bif Nat.blt f 512 then fns.get f else none, dfn := fun f => bif Nat.blt f 512 then dfns.get f else none }
noncomputable def tab1 : XTab := { memo := memo1, fn := fun f => bif Nat.blt f 512 then fns.get f else none, dfn := fun f => bif Nat.blt f 512 then dfns.get f else none }
noncomputable def G0 : XG := fun _ => none
noncomputable def retIs (v : AVal) (r : XF) : Bool :=
  match r with
  | .ret v' _ => sameX v' v
  | _ => false
end Go.Proofs.YtjleeecaebgblaaGreatDoor.AL.K
