/- known() answers true, at any memory. -/
import Derived.Test.YtjleeecaebgblaaGreatDoorK5
import Derived.Test.YtjleeecaebgblaaGreatDoorK6
import Derived.Test.YtjleeecaebgblaaGreatDoorL1
set_option linter.all false
set_option maxRecDepth 100000
namespace Go.Proofs.YtjleeecaebgblaaGreatDoor.AL.K
open Go Go.Proofs.YtjleeecaebgblaaGreatDoor.AL Go.Proofs
theorem retIs_ok {r : XF} {v : AVal} (h : retIs v r = true) : ∃ M, r = .ret v M := by
  unfold retIs at h
  split at h
  · rename_i v' M
    exact ⟨M, by rw [sameX_eq _ _ h]⟩
  · cases h
theorem ofX0 (P : Program) (G : XG) : AMem.ofX P G XM0 = AMem.none G := rfl
/-- What a run from nothing tells, at any memory. -/
theorem run_calls {tab : XTab} (hT : TabOk Tryz.prog G0 tab) {fuel k : Nat} {f : FuncId} {args : List AVal} {v : AVal} (h : retIs v ((xlvl Tryz.prog tab G0 fuel k).call f args XM0) = true) (hv : Clean 0 0 v) (hc : Cleans 0 0 args) {μ : AMem} (hgl : μ.gl = G0) :
    calls Tryz.prog f args μ (fun o μ' => o = .ret v ∧ μ' = μ) := by
  obtain ⟨M, hM⟩ := retIs_ok h
  refine calls.pure (gl := G0) ?_ hv hc hgl
  rw [← ofX0 Tryz.prog G0]
  refine (xlvl_ok followsT hT fuel k).call f args XM0 _ ?_
  show ResF _ _ ((xlvl Tryz.prog tab G0 fuel k).call f args XM0) _
  rw [hM]
  exact ⟨rfl, rfl⟩
theorem sample_clean : Cleans 0 0 [sampleV] := by simp [sampleV, Clean, Cleans]
theorem check_clean : Clean 0 0 checkV := by simp [checkV, Clean, Cleans]
theorem tab1_ok : TabOk Tryz.prog G0 tab1 where
  fn _ _ h := fnAll h
  dfn _ _ h := dfnAll h
  memo f args v h M := by
    simp only [tab1, memo1] at h
    split at h
    · split at h <;> cases h
      rename_i hc
      exact clones hc _ _
    · rename_i d _
      cases hf : Nat.beq f 43 <;> rw [hf] at h
      · cases h
      cases hd : sameX d sampleV <;> rw [hd] at h <;> cases h
      have hf := Nat.eq_of_beq_eq_true hf
      subst hf
      rw [sameX_eq _ _ hd]
      exact run_calls tab0_ok (t43 _) check_clean sample_clean rfl
    · cases h
theorem m32s : mkFn Tryz.prog (fun _ _ => false) 32 = some c32s := by kernel_rfl
theorem tells : Tells Tryz.prog where
  m := followsT
  f f hf F h := fnAll (by rw [show Nat.blt f 512 = true from Nat.ble_eq_true_of_le hf]; exact h)
  d f hf F h := dfnAll (by rw [show Nat.blt f 512 = true from Nat.ble_eq_true_of_le hf]; exact h)
theorem h32 : callable Tryz.prog 32 = true ∧ ∃ mu, mkFn Tryz.prog mu 32 = some c32s := ⟨k32, _, m32s⟩
/-- KNOWN ANSWERS TRUE. -/
theorem known_ok {μ : AMem} (hgl : μ.gl = G0) : calls Tryz.prog 5 [] μ (fun o μ' => o = .ret (.lit (.bool true)) ∧ μ' = μ) :=
  run_calls tab1_ok (t5 _) (by simp [Clean]) (by simp [Cleans]) hgl
end Go.Proofs.YtjleeecaebgblaaGreatDoor.AL.K
