/- The row's closed facts. -/
import Derived.Test.YtjleeecaebgblaaGreatDoorRows
import Derived.Test.YtjleeecaebgblaaGreatDoorCards
import Derived.Test.YtjleeecaebgblaaGreatDoorTie
import Derived.ProofKit
import Derived.SevenTiedAt
import Derived.Stop.Joined
set_option linter.all false
namespace Go.Proofs.YtjleeecaebgblaaGreatDoor
open Go
set_option maxRecDepth 100000
theorem and_ok {a b : Bool} (h : a = true) (k : b = true) : (a && b) = true := by rw [h, k]; rfl
theorem j0 : (Rows.corpusEncodesRow.wf (OpenSpec.ofChange Rows.corpusEncodesSpec)) = true := by kernel_rfl
theorem j1 : (laidOutB Tryz.prog) = true := by kernel_rfl
theorem j2 : (mapsRowed Tryz.prog) = true := by kernel_rfl
theorem j3 : (Tryz.f4.params.all (Tryz.prog.readableRec ·)) = true := by kernel_rfl
theorem j4 : (namedTie Tryz.prog Rows.corpusEncodesRow.named Rows.corpusEncodesSpec.vars) = true := by kernel_rfl
theorem j5 : ((Rows.corpusEncodesRow.stops == [])) = true := by kernel_rfl
theorem j6 : ((Tryz.prog.stops == [])) = true := by kernel_rfl
theorem j7 : ((Rows.corpusEncodesRow.knobs == [])) = true := by kernel_rfl
theorem j8 : ((Tryz.prog.stopKnobs == [])) = true := by kernel_rfl
theorem j9 : ((Rows.corpusEncodesRow.inPlace == Tryz.prog.inPlace 4)) = true := by kernel_rfl
theorem j10 : ((Rows.corpusEncodesRow.unfollowed == Tryz.prog.unfollowed 4)) = true := by kernel_rfl
theorem j11 : ((Rows.corpusEncodesRow.recurses == Tryz.prog.recurses 4)) = true := by kernel_rfl
theorem j12 : ((Rows.corpusEncodesRow.named == Tryz.prog.varsNamed 4)) = true := by kernel_rfl
theorem j13 : ((Rows.corpusEncodesRow.maps == (Tryz.f4.params.toList ++ Rows.corpusEncodesSpec.plain.varTypes Tryz.prog).any (Tryz.prog.mapsRec ·))) = true := by kernel_rfl
theorem j14 : ((Rows.corpusEncodesRow.ifaces == (Tryz.f4.params.toList ++ Rows.corpusEncodesSpec.plain.varTypes Tryz.prog).any (Tryz.prog.ifacesRec ·))) = true := by kernel_rfl
theorem j15 : ((Rows.corpusEncodesRow.mapsOut == Tryz.prog.mapsAmong Tryz.f4.resultTypes.toList)) = true := by kernel_rfl
theorem j16 : ((Rows.corpusEncodesRow.loops == (Tryz.f4.params.toList ++ Rows.corpusEncodesSpec.plain.varTypes Tryz.prog).any (Tryz.prog.loopsFrom ·))) = true := by kernel_rfl
theorem j17 : ((Rows.corpusEncodesRow.wideKeys == (Tryz.f4.params.toList ++ Rows.corpusEncodesSpec.plain.varTypes Tryz.prog ++ Tryz.f4.resultTypes.toList).any (Tryz.prog.wideKeysFrom ·))) = true := by kernel_rfl
theorem j18 : (Rows.corpusEncodesSpec.vars.all (Tryz.prog.varReadable ·)) = true := by kernel_rfl
theorem j19 : (Tryz.f4.resultTypes.all (fun t => Tryz.prog.readableRec t && decide (t < Tryz.prog.types.size))) = true := by kernel_rfl
theorem j20 : ((Rows.corpusEncodesRow.ifacesOut == Tryz.f4.resultTypes.toList.any (Tryz.prog.ifacesRec ·))) = true := by kernel_rfl
theorem j21 : ((Rows.corpusEncodesRow.loopsOut == Tryz.f4.resultTypes.toList.any (Tryz.prog.loopsFrom ·))) = true := by kernel_rfl
theorem j22 : ((Rows.corpusEncodesRow.plainKeys == Tryz.prog.plainKeys)) = true := by kernel_rfl
theorem j23 : (Rows.corpusEncodesRow.shortTexts.isNone) = true := by kernel_rfl
theorem j24 : (Tryz.prog.stopsHeard) = true := by kernel_rfl
theorem j25 : (Tryz.prog.mayEnter) = true := by kernel_rfl
theorem j26 : ((Rows.corpusEncodesRow.lifted == Tryz.prog.liftsFinal)) = true := by kernel_rfl
theorem j27 : ((Tryz.prog.make == some Rows.corpusEncodesRow.make)) = true := by kernel_rfl
theorem j28 : ((Rows.corpusEncodesRow.kinds == (if Rows.corpusEncodesRow.domain.isEmpty then [] else Tryz.f4.params.toList.map fun t => match Tryz.prog.underlying t with | some (.int k) => some k | _ => none))) = true := by kernel_rfl
theorem j29 : ((Rows.corpusEncodesRow.pinned == Rows.corpusEncodesRow.pinnedBy)) = true := by kernel_rfl
theorem j30 : ((Rows.corpusEncodesRow.veiled == (Tryz.f4.params.toList ++ Rows.corpusEncodesSpec.plain.varTypes Tryz.prog ++ Tryz.f4.resultTypes.toList).any (Tryz.prog.veiledRec ·))) = true := by kernel_rfl
theorem j31 : (Rows.corpusEncodesRow.veiledFits Tryz.prog Tryz.f4.params.toList (Tryz.f4.params.toList ++ Rows.corpusEncodesSpec.plain.varTypes Tryz.prog ++ Tryz.f4.resultTypes.toList)) = true := by kernel_rfl
theorem closed : joinedFacts Tryz.prog 4 Tryz.f4 Rows.corpusEncodesSpec Rows.corpusEncodesRow = true := by
  unfold joinedFacts
  exact (and_ok (and_ok (and_ok (and_ok (and_ok (and_ok (and_ok (and_ok (and_ok (and_ok (and_ok (and_ok (and_ok (and_ok (and_ok (and_ok (and_ok (and_ok (and_ok (and_ok (and_ok (and_ok (and_ok (and_ok (and_ok (and_ok (and_ok (and_ok (and_ok (and_ok (and_ok j0 j1) j2) j3) j4) j5) j6) j7) j8) j9) j10) j11) j12) j13) j14) j15) j16) j17) j18) j19) j20) j21) j22) j23) j24) j25) j26) j27) j28) j29) j30) j31)
theorem named4 : Tryz.prog.funcNamed "phrasebook/phrasebooklaw42.CorpusEncodes" = some 4 := by kernel_rfl
theorem noGoes : Tryz.prog.funcs.toList.any Func.goes = false := by kernel_rfl
theorem goes_none {P : Program} (h : P.funcs.toList.any Func.goes = false) (f : FuncId) : P.goes f = false := by
  have h' : P.funcs.any Func.goes = false := by rw [← Array.any_toList]; exact h
  have hg : ((P.closure f).any fun g => (P.funcs[g]?).any Func.goes) = false := by
    rw [List.any_eq_false]
    intro g _ hg
    cases e : P.funcs[g]? with
    | none => rw [e] at hg; cases hg
    | some fn =>
      rw [e] at hg
      have hm : fn ∈ P.funcs.toList := by rw [Array.mem_toList_iff]; exact Array.mem_of_getElem? e
      exact (List.any_eq_false.1 h) fn hm hg
  unfold Program.goes
  rw [hg, h', Bool.and_false]; rfl
theorem goes4 : false = Rows.corpusEncodesRow.goesBy Tryz.prog := by
  have h : Tryz.prog.goesFrom Rows.corpusEncodesRow.func = false := by
    unfold Program.goesFrom
    rw [show Tryz.prog.funcNamed Rows.corpusEncodesRow.func = some 4 from named4, Option.any_some]
    exact goes_none noGoes 4
  unfold OpenClaim.goesBy Program.goesAt
  rw [h, Bool.false_or]
  rfl
theorem wfText : Rows.corpusEncodesRow.wfByText (OpenSpec.ofChange Rows.corpusEncodesSpec) = true := by kernel_rfl
theorem main4 : Tryz.prog.mainIs = some (true, "5e461cadbcc00d23784929b911fdd75f258319b34b34d684f8535a4541c5246e".toList) := by kernel_rfl
theorem looks4 : true = Tryz.prog.looks [] := by kernel_rfl
theorem stand4 : ([24].all fun u => !Tryz.prog.wantsStandIn u) = true := by kernel_rfl
theorem inst4 : Tryz.f4.isInstance Tryz.prog Rows.corpusEncodesRow.origin Rows.corpusEncodesRow.targs := of_decide_eq_true (by kernel_rfl)
theorem wrap4 : Tryz.f4.isWrapper Tryz.prog Rows.corpusEncodesRow.wrapper Rows.corpusEncodesRow.mainSum := by unfold Func.isWrapper; rw [if_neg (of_decide_eq_false (by kernel_rfl))]; exact ⟨rfl, rfl⟩
end Go.Proofs.YtjleeecaebgblaaGreatDoor
