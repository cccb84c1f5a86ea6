/- For every input phrasebooklaw42.CorpusDecodes returns true and its argument reads behind the call as it read before; the listed package-level variables hold what the program's text lays (the card ties them). -/
import Derived.Test.YtjleeecaebgblaaGreatDoorL2
import Derived.Test.YtjleeecaebgblaaGreatDoorB4
import Derived.Test.YtjleeecaebgblaaGreatDoorK7
import Derived.Test.YtjleeecaebgblaaGreatDoorRows
import Derived.Test.YtjleeecaebgblaaGreatDoorCards
import Derived.Test.YtjleeecaebgblaaGreatDoorTie
import Derived.ProofKit
import Derived.Carry
import Derived.Lay
import Derived.SevenTiedAt
import Derived.Stop.Joined
import Derived.Test.YtjleeecaebgblaaGreatDoorL5
set_option linter.all false
namespace Go.Proofs.YtjleeecaebgblaaGreatDoor
open Go Go.Proofs.YtjleeecaebgblaaGreatDoor.AL Go.Proofs.YtjleeecaebgblaaGreatDoor.AL.K Go.ChangeShapes Go.WideShapes Go.ChangeAt Go.RowKit
theorem own : ownKnob Tryz.prog.godebug = none := by kernel_rfl
theorem laidOut : laidOutB Tryz.prog = true := by kernel_rfl
theorem ghost_sim (W : World) : Sim Tryz.prog (ghost W) W (AMem.none G0) := by
  constructor
  · intro i b e; cases e
  · intro i j b k k' e; cases e
  · intro i c e; cases e
  · intro i b k e; cases e
  · intro b o x e
    simp only [ghost] at e
    split at e
    · rename_i cs t fr h
      exact ⟨cs, t, fr, h, e⟩
    · cases e
  · intro i b k o e; cases e
  · intro s b c n e h; cases h
  · intro s b c n e hs; cases hs
  · intro s b c n e i k hs; cases hs
  · intro s s' b c n e c' n' e' hs; cases hs
  · exact List.nodup_nil
  · intro s hs; cases hs
  · intro s _; rfl
  · intro b cs e; cases e
/-- THE CALL, out of the walk. -/
theorem law_calls (W : World) (bs : List UInt8) (v0 : Value) (h : VR (ghost W) (.sl bs.length (aBytes bs) .no) v0) :
    Calls Tryz.prog 3 #[v0] W fun e W' => e = .returned (.bool true) ∧ Below W.heap.size W W' := by
  have hw : WFm (AMem.none G0) := ⟨fun b hb => (List.not_mem_nil hb).elim, fun b cs e => (by cases e), fun d hd => (List.not_mem_nil hd).elim⟩
  have hc := (law_decodes (gl := G0) tells h32 (fun μ hμ => known_ok hμ) bs).2.out (ghost W) W [v0] (ghost_sim W) hw ⟨⟨Cleans_aBytes bs, trivial⟩, trivial⟩ ⟨v0, [], rfl, h, rfl⟩
  refine hc.mono fun e W' ⟨o, μ', g', ho, hst, hsim, hout, _⟩ => ?_
  subst ho
  constructor
  · cases e with
    | returned cv =>
      have : cv = .bool true := hout
      rw [this]
    | panicked ch => exact hout.elim
    | outgrown => exact hout.elim
  · exact ⟨hst.frame.os, hst.frame.tape, hst.frame.output, hst.frame.size, fun b hb => hst.frame.block b hb (by
      rintro (⟨i, hi⟩ | ⟨s, hs, _⟩)
      · cases hi
      · cases hs)⟩
theorem sh_bytes {cs : List AVal} (h : Sh (.sl (.int .u8)) cs) : ∃ bs : List UInt8, cs = [.sl bs.length (aBytes bs) .no] := by
  cases h with
  | sl e ls hl hls =>
    have : ∃ bs : List UInt8, bs.length = ls.length ∧ ls.flatten = aBytes bs := by
      clear hl
      induction ls with
      | nil => exact ⟨[], rfl, rfl⟩
      | cons l ls ih =>
        obtain ⟨bs, h1, h2⟩ := ih fun l hl => hls l (by simp [hl])
        cases hls l (by simp) with
        | int k n hw =>
          have hn : 0 ≤ n ∧ n ≤ 255 := by simpa [Lit.wf, IntKind.min, IntKind.max, IntKind.signed, IntKind.bits] using hw
          refine ⟨UInt8.ofNat n.toNat :: bs, by simp [h1], ?_⟩
          rw [List.flatten_cons, h2, aBytes_cons]
          have : ((UInt8.ofNat n.toNat).toNat : Int) = n := by
            rw [UInt8.toNat_ofNat']
            omega
          rw [this]; rfl
    obtain ⟨bs, h1, h2⟩ := this
    exact ⟨bs, by rw [h1, h2]⟩
/-- The argument, as a value of ours. -/
theorem arg_VR {H : Type} {enc : TypeId × Value → H} {W : World} {v0 : Value} {d0 : DataW H} {p : List MemPlace} (hv : ∃ A n c, v0 = .slice A n c) (h0 : DataW.Trod enc Tryz.prog W 0 (fun _ => true) true 22 v0 d0 p) :
    ∃ bs : List UInt8, VR (ghost W) (.sl bs.length (aBytes bs) .no) v0 := by
  obtain ⟨A, n, c, rfl⟩ := hv
  obtain ⟨fuel, hf⟩ := h0
  obtain ⟨cs, hs, hr⟩ := open_sh fuel (.sl (.int .u8)) 22 _ _ (by kernel_rfl) hf
  obtain ⟨bs, rfl⟩ := sh_bytes hs
  refine ⟨bs, ?_⟩
  simp only [VRs] at hr
  obtain ⟨v, vs, e, hv, _⟩ := hr
  simp only [Value.cells, List.cons.injEq] at e
  rw [e.1]; exact hv
set_option maxRecDepth 100000 in
theorem lifted (os : Os) (started : os.Started) (H : Type) (enc : TypeId × Value → H) :
    ReturnsInHanded {} Tryz.checked os 3 .any (fun w args => (Rows.corpusDecodesSpec.pre enc Tryz.prog Tryz.f3 Rows.corpusDecodesRow.domain false w args ∧ laidMetH Tryz.prog Rows.corpusDecodesRow.laid w) ∧ sizedMet enc Tryz.prog Tryz.f3 (OpenSpec.ofChange Rows.corpusDecodesSpec) false w args)
      (Rows.corpusDecodesSpec.post enc Tryz.prog Tryz.f3 false true false false) := by
  refine returnsInHanded_of_change_and (C := Tryz.checked) (X := fun w _ => laidMetH Tryz.prog Rows.corpusDecodesRow.laid w) (fun _ _ _ hh h => h.of_heap hh) own started (by kernel_rfl) Tryz.func3
    (ChangeSpec.witness_shaped (enc := enc) (C := Tryz.checked) (os := os) (X := fun w _ => laidMetH Tryz.prog Rows.corpusDecodesRow.laid w) false (World.laidAll Tryz.prog os Rows.corpusDecodesRow.laid) #[.slice none 0 0] 8 (World.laidAll_os _ _ _)
      (World.shaped_of_ZipB (by kernel_rfl) (by kernel_rfl)) (by kernel_rfl) (by kernel_rfl) (by kernel_rfl)
      (by rw [MakeChecks.laidMetH_plain _ _ _ (by kernel_rfl)]; exact laidMet_laidAll _ (by kernel_rfl) (by kernel_rfl))) ?_
  intro W base args ds gs before hval0 hW hc _ hL _
  have hval : ∀ (j : Nat) t v, Tryz.f3.params[j]? = some t → args[j]? = some v → Value.okWide Tryz.prog W .any base t v := hval0
  have hW' := hW
  obtain ⟨p, q, hA0, hV, rfl, _, _⟩ := hW
  have hA : DataW.TrodAll enc Tryz.prog W 0 (fun _ => true) true Tryz.f3.params.toList args.toList ds p := hA0
  rw [Tryz.params3] at hA hval
  obtain ⟨v0, d0, rfl, rfl, h0⟩ := trodAll_one hA
  obtain ⟨rfl, rfl⟩ := trodVars_none hV
  obtain ⟨A, n, c, hv⟩ := okWide_slice Tryz.underlying22 (hval 0 22 v0 rfl rfl)
  obtain ⟨bs, hbs⟩ := arg_VR ⟨A, n, c, hv⟩ h0
  simp only [List.append_nil] at hW'
  refine (law_calls W bs v0 hbs).mono fun e W' ⟨he, hb⟩ => ?_
  subst he
  have hlt : ∀ x ∈ p, x.block < W.heap.size := fun x hx => hW'.lt x hx
  refine ⟨_, rfl, [d0], [], p, [], p, [], hW', ?_, ?_, ?_, ?_, fun h => by cases h⟩
  · exact trodAll_mk1 (shut_bool Tryz.underlying4 true)
  · exact trodAll_mk1 (Below.trod laidOut (by kernel_rfl) (of_decide_eq_true (by kernel_rfl)) h0 hb hlt)
  · rfl
  · exact hb.frame _
end Go.Proofs.YtjleeecaebgblaaGreatDoor
namespace Go.Proofs.YtjleeecaebgblaaGreatDoor
open Go
theorem corpusDecodes_holds : Rows.CorpusDecodesSaid :=
  OpenClaim.holds_of_wide 3 Tryz.f3 rfl rfl rfl rfl rfl rfl rfl ⟨rfl, rfl, rfl, rfl, rfl⟩ rfl rfl rfl rfl rfl named3 Tryz.func3 closed inst3 wrap3
    (fun os started H enc _ => lifted os started H enc)
theorem corpusDecodes_card_holds : Rows.CorpusDecodesCardSaid :=
  Claim7.holds_tied_plain_at .later [] [.data, .data, .data, .data, .sentinel, .sentinel, .pinned] true (true, "5e461cadbcc00d23784929b911fdd75f258319b34b34d684f8535a4541c5246e") true corpusDecodes_holds (fun _ h => by cases h) wfText (fun _ h => by cases h) corpusDecodes_row_tie rfl ⟨rfl, rfl⟩ main3 rfl
    (fun f fn hf hfn => by
      obtain rfl : f = 3 := Option.some.inj (named3.symm.trans hf) |>.symm
      obtain rfl : fn = Tryz.f3 := (Option.some.inj (Tryz.func3.symm.trans hfn)).symm
      exact ⟨looks3, fun j t ht => by
        rw [Tryz.params3] at ht
        have hm : t ∈ [22] := by simpa using Array.mem_of_getElem? ht
        exact (show Tryz.prog.wantsStandIn t = false by simpa using List.all_eq_true.1 stand3 t hm)⟩)
    goes3
#print axioms corpusDecodes_card_holds
end Go.Proofs.YtjleeecaebgblaaGreatDoor
