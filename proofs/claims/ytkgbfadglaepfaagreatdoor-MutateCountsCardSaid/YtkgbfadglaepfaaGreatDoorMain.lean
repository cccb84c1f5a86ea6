/- For every input phrasebooklaw40.MutateCounts returns true and its argument reads behind the call as it read before; the listed package-level variables hold what the program's text lays (the card ties them). -/
import Derived.Test.YtkgbfadglaepfaaGreatDoorL1
import Derived.Test.YtkgbfadglaepfaaGreatDoorK7
import Derived.Test.YtkgbfadglaepfaaGreatDoorRows
import Derived.Test.YtkgbfadglaepfaaGreatDoorCards
import Derived.Test.YtkgbfadglaepfaaGreatDoorTie
import Derived.ProofKit
import Derived.Carry
import Derived.Lay
import Derived.SevenTiedAt
import Derived.Stop.Joined
import Derived.Test.YtkgbfadglaepfaaGreatDoorL2
set_option linter.all false
namespace Go.Proofs.YtkgbfadglaepfaaGreatDoor
open Go Go.Proofs.YtkgbfadglaepfaaGreatDoor.AL Go.Proofs.YtkgbfadglaepfaaGreatDoor.AL.K Go.ChangeShapes Go.WideShapes Go.ChangeAt Go.RowKit
theorem own : ownKnob Tryz.prog.godebug = none := by kernel_rfl
theorem laidOut : laidOutB Tryz.prog = true := by kernel_rfl
/-- What the heap holds, and no more is known. -/
def ghost (W : World) : Gh where
  φ := fun _ => none
  H := fun b o => match W.heap[b]? with
    | some (.cells cs _ _) => cs[o]?
    | _ => none
  T := fun _ => none
  Cp := fun _ => none
theorem ghost_sim (W : World) : Sim Tryz.prog (ghost W) W (AMem.none G0) := by
  constructor
  · intro i b e; cases e
  · intro i j b k k' e; cases e
  · intro i c e; cases e
  · intro i b k e; cases e
  · intro b o x e
    simp only [ghost] at e
    split at e
    · rename_i cs t fr h
      exact ⟨cs, t, fr, h, e⟩
    · cases e
  · intro i b k o e; cases e
  · intro s b c n e h; cases h
  · intro s b c n e hs; cases hs
  · intro s b c n e i k hs; cases hs
  · intro s s' b c n e c' n' e' hs; cases hs
  · exact List.nodup_nil
  · intro s hs; cases hs
  · intro s _; rfl
  · intro b cs e; cases e
theorem ghost_cell {W : World} {b o : Nat} {v : Value} (h : W.cell? ⟨b, o, none⟩ = some v) : (ghost W).H b o = some v := by
  simp only [World.cell?] at h
  simp only [ghost]
  split at h <;> simp_all
theorem VC_kcells {g : Gh} {b : Nat} : ∀ (zs : List Int) (o : Nat), (∀ i, i < zs.length → g.H b (o + i) = some (.int .i64 (zs.getD i 0))) → VC g b o (kcells zs)
  | [], o, h => trivial
  | z :: zs, o, h => by
    refine ⟨⟨_, by simpa using h 0 (by simp), by simp [VR]⟩, VC_kcells zs (o + 1) fun i hi => ?_⟩
    have := h (i + 1) (by simpa using hi)
    simpa [Nat.add_assoc, Nat.add_comm 1 i] using this
/-- THE CALL, out of the walk. -/
theorem law_calls (W : World) (ks : List Int) (v0 : Value) (h : VR (ghost W) (.sl ks.length (kcells ks) .no) v0) :
    Calls Tryz.prog 3 #[v0] W fun e W' => e = .returned (.bool true) ∧ Below W.heap.size W W' := by
  have hw : WFm (AMem.none G0) := ⟨fun b hb => (List.not_mem_nil hb).elim, fun b cs e => (by cases e), fun d hd => (List.not_mem_nil hd).elim⟩
  have hc := (law_ok followsT m3 k3 m5 k5 (gl := G0) (fun μ hμ => known_ok hμ) ks).2.out (ghost W) W [v0] (ghost_sim W) hw ⟨⟨Cleans_kcells ks, trivial⟩, trivial⟩ ⟨v0, [], rfl, h, rfl⟩
  refine hc.mono fun e W' ⟨o, μ', g', ho, hst, hsim, hout, _⟩ => ?_
  subst ho
  constructor
  · cases e with
    | returned cv =>
      have : cv = .bool true := hout
      rw [this]
    | panicked ch => exact hout.elim
    | outgrown => exact hout.elim
  · exact ⟨hst.frame.os, hst.frame.tape, hst.frame.output, hst.frame.size, fun b hb => hst.frame.block b hb (by
      rintro (⟨i, hi⟩ | ⟨s, hs, _⟩)
      · cases hi
      · cases hs)⟩
/-- The argument, as a value of ours. -/
theorem arg_VR {H : Type} {enc : TypeId × Value → H} {W : World} {v0 : Value} {d0 : DataW H} {p : List MemPlace} (hv : ∃ A n c, v0 = .slice A n c) (h0 : DataW.Trod enc Tryz.prog W 0 (fun _ => true) true 22 v0 d0 p) :
    ∃ ks : List Int, VR (ghost W) (.sl ks.length (kcells ks) .no) v0 := by
  obtain ⟨A, n, c, rfl⟩ := hv
  obtain ⟨fuel, hf⟩ := h0
  rcases open_ints Tryz.underlying22 Tryz.underlying3 (by kernel_rfl) hf with ⟨hcs, _⟩ | ⟨a, len, cap, zs, hcs, _, hl, _, hzl, _, hcell, _⟩
  · refine ⟨[], A, c, ?_⟩
    simp only [Value.cells, List.cons.injEq, Value.slice.injEq, and_true] at hcs
    obtain ⟨rfl, rfl, rfl⟩ := hcs
    exact ⟨rfl, Nat.le_refl _, trivial, .inl ⟨rfl, rfl⟩⟩
  · simp only [Value.cells, List.cons.injEq, Value.slice.injEq, and_true] at hcs
    obtain ⟨rfl, rfl, rfl⟩ := hcs
    simp only [if_true] at hzl
    have hlen : (zs.take n).length = n := by rw [List.length_take]; omega
    refine ⟨zs.take n, some a, c, by rw [hlen], by rw [hlen]; exact hl, trivial, ?_⟩
    rcases Nat.eq_zero_or_pos n with rfl | hn
    · exact .inl ⟨by simp, by simp [kcells]⟩
    · right
      obtain ⟨b, off, spot⟩ := a
      have hs : spot = none := by simpa [Addr.add] using World.cell?_spot (hcell 0 (by omega))
      subst hs
      refine ⟨b, off, rfl, VC_kcells _ _ fun i hi => ?_⟩
      rw [hlen] at hi
      have hadd : (⟨b, off, none⟩ : Addr).add i = ⟨b, off + i, none⟩ := by
        simp only [Addr.add]
        split
        · rename_i h0; subst h0; rfl
        · rfl
      have := ghost_cell (W := W) (b := b) (o := off + i) (by rw [← hadd]; exact hcell i (by omega))
      rw [this]
      simp [List.getD, List.getElem?_take, hi]
set_option maxRecDepth 100000 in
theorem lifted (os : Os) (started : os.Started) (H : Type) (enc : TypeId × Value → H) :
    ReturnsInHanded {} Tryz.checked os 3 .any (fun w args => (Rows.mutateCountsSpec.pre enc Tryz.prog Tryz.f3 Rows.mutateCountsRow.domain false w args ∧ laidMetH Tryz.prog Rows.mutateCountsRow.laid w) ∧ sizedMet enc Tryz.prog Tryz.f3 (OpenSpec.ofChange Rows.mutateCountsSpec) false w args)
      (Rows.mutateCountsSpec.post enc Tryz.prog Tryz.f3 false true false false) := by
  refine returnsInHanded_of_change_and (C := Tryz.checked) (X := fun w _ => laidMetH Tryz.prog Rows.mutateCountsRow.laid w) (fun _ _ _ hh h => h.of_heap hh) own started (by kernel_rfl) Tryz.func3
    (ChangeSpec.witness_shaped (enc := enc) (C := Tryz.checked) (os := os) (X := fun w _ => laidMetH Tryz.prog Rows.mutateCountsRow.laid w) false (World.laidAll Tryz.prog os Rows.mutateCountsRow.laid) #[.slice none 0 0] 8 (World.laidAll_os _ _ _)
      (World.shaped_of_ZipB (by kernel_rfl) (by kernel_rfl)) (by kernel_rfl) (by kernel_rfl) (by kernel_rfl)
      (by rw [MakeChecks.laidMetH_plain _ _ _ (by kernel_rfl)]; exact laidMet_laidAll _ (by kernel_rfl) (by kernel_rfl))) ?_
  intro W base args ds gs before hval0 hW hc _ hL _
  have hval : ∀ (j : Nat) t v, Tryz.f3.params[j]? = some t → args[j]? = some v → Value.okWide Tryz.prog W .any base t v := hval0
  have hW' := hW
  obtain ⟨p, q, hA0, hV, rfl, _, _⟩ := hW
  have hA : DataW.TrodAll enc Tryz.prog W 0 (fun _ => true) true Tryz.f3.params.toList args.toList ds p := hA0
  rw [Tryz.params3] at hA hval
  obtain ⟨v0, d0, rfl, rfl, h0⟩ := trodAll_one hA
  obtain ⟨rfl, rfl⟩ := trodVars_none hV
  obtain ⟨A, n, c, hv⟩ := okWide_slice Tryz.underlying22 (hval 0 22 v0 rfl rfl)
  obtain ⟨ks, hks⟩ := arg_VR ⟨A, n, c, hv⟩ h0
  simp only [List.append_nil] at hW'
  refine (law_calls W ks v0 hks).mono fun e W' ⟨he, hb⟩ => ?_
  subst he
  have hlt : ∀ x ∈ p, x.block < W.heap.size := fun x hx => hW'.lt x hx
  refine ⟨_, rfl, [d0], [], p, [], p, [], hW', ?_, ?_, ?_, ?_, fun h => by cases h⟩
  · exact trodAll_mk1 (shut_bool Tryz.underlying4 true)
  · exact trodAll_mk1 (Below.trod laidOut (by kernel_rfl) (of_decide_eq_true (by kernel_rfl)) h0 hb hlt)
  · rfl
  · exact hb.frame _
end Go.Proofs.YtkgbfadglaepfaaGreatDoor
namespace Go.Proofs.YtkgbfadglaepfaaGreatDoor
open Go
theorem mutateCounts_holds : Rows.MutateCountsSaid :=
  OpenClaim.holds_of_wide 3 Tryz.f3 rfl rfl rfl rfl rfl rfl rfl ⟨rfl, rfl, rfl, rfl, rfl⟩ rfl rfl rfl rfl rfl named3 Tryz.func3 closed inst3 wrap3
    (fun os started H enc _ => lifted os started H enc)
theorem mutateCounts_card_holds : Rows.MutateCountsCardSaid :=
  Claim7.holds_tied_plain_at .later [] [.data, .data, .data, .data, .sentinel, .sentinel, .pinned] true (true, "a21f26b561373e4a72b964b880bfd4bb0e3a5ea45f2b6340325a2c11e92c541d") true mutateCounts_holds (fun _ h => by cases h) wfText (fun _ h => by cases h) mutateCounts_row_tie rfl ⟨rfl, rfl⟩ main3 rfl
    (fun f fn hf hfn => by
      obtain rfl : f = 3 := Option.some.inj (named3.symm.trans hf) |>.symm
      obtain rfl : fn = Tryz.f3 := (Option.some.inj (Tryz.func3.symm.trans hfn)).symm
      exact ⟨looks3, fun j t ht => by
        rw [Tryz.params3] at ht
        have hm : t ∈ [22] := by simpa using Array.mem_of_getElem? ht
        exact (show Tryz.prog.wantsStandIn t = false by simpa using List.all_eq_true.1 stand3 t hm)⟩)
    goes3
#print axioms mutateCounts_card_holds
end Go.Proofs.YtkgbfadglaepfaaGreatDoor
