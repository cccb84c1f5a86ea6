/- What running tells is a contract. -/
import Derived.Test.YtjleeecaebgblaaGreatDoorB2
set_option linter.all false
namespace Go.Proofs.YtjleeecaebgblaaGreatDoor.AL
open Go.RowKit
variable {P : Program}
def AJump.exit' : AJump → AExit
  | .ret => .ret
  | .exit j => .exit j
  | .goto l => .goto l
/-- What running comes to is what is asked. -/
def Res (P : Program) (G : XG) (r : XC) (K : AK) (E : AE) : Prop :=
  match r with
  | .norm T M => K T.A (AMem.ofX P G M)
  | .out j T M => E j.exit' T.A (AMem.ofX P G M)
  | .pan v (some T) M => E (.panic v) T.A (AMem.ofX P G M)
  | .pan v none M => E (.panic v) (fun _ => .any) (AMem.ofX P G M)
  | .fail _ => False
def ResF (P : Program) (G : XG) (r : XF) (Q : AOut → AMem → Prop) : Prop :=
  match r with
  | .ret v M => Q (.ret v) (AMem.ofX P G M)
  | .panic v M => Q (.panic v) (AMem.ofX P G M)
  | .fail _ => False
/-- Calls within running are told by contracts. -/
structure CtxOk (P : Program) (C : XCtx) : Prop where
  call : ∀ f args M Q, ResF P C.G (C.call f args M) Q → calls P f args (AMem.ofX P C.G M) Q
  rnd : ∀ id args M Q, ResF P C.G (C.rnd id args M) Q → ARounds P id args (AMem.ofX P C.G M) Q
  dfr : ∀ f, C.dfr f = true → callable P f = true
variable {C : XCtx} {K : AK} {E : AE}
theorem putC_ok {i : Nat} {T : XT} {d : Option Nat} {v : AVal} {M : XM} (h : Res P C.G (putC i T d v M) K E) : K (put T.A d v) (AMem.ofX P C.G M) := by
  unfold putC orFail at h
  split at h
  · rename_i r hr
    obtain ⟨T', hk, hT⟩ := XT.put_some hr
    cases hk
    rw [← hT]; exact h
  · exact h.elim
theorem xcall_ok (hC : CtxOk P C) {o : SOp} {A : ATmps} {M : XM} {Q : AOut → AMem → Prop} (h : ResF P C.G (xcall C o A M) Q) : aCall P o A (AMem.ofX P C.G M) Q := by
  cases o with
  | call f args =>
    have h : ResF P C.G (evalsX A args fun l => C.call f l M) Q := h
    rw [evalsX_eq] at h
    exact hC.call _ _ _ _ h
  | callv x args =>
    simp only [aCall, callvR]
    unfold xcall at h
    simp only at h
    split at h
    · rename_i f fs cs hx
      rw [evalsX_eq, fapp_eq, fapp_eq] at h
      rw [hx]
      simp only [List.append_assoc]
      exact hC.call _ _ _ _ h
    · rename_i id hx
      rw [evalsX_eq] at h
      rw [hx]
      exact hC.rnd _ _ _ _ h
    · exact h.elim
  | panic x =>
    simp only [aCall]
    unfold xcall at h
    simp only at h
    split at h
    · rename_i t v hx
      rw [hx]; exact h
    · exact h.elim
  | _ => exact h.elim
theorem afterX_ok {i : Nat} {d : Option Nat} {T : XT} {r : XF} (h : Res P C.G (afterX i d T r) K E) : ResF P C.G r (afterCall d T.A K E) := by
  cases r with
  | ret v M => exact putC_ok h
  | panic v M => exact h
  | fail l => exact h.elim
theorem gdX_some {want : Bool} {v : AVal} {b : Bool} (h : gdX want v = some b) : (gdR want v).ok ∧ (gdR want v).b = b := by
  unfold gdX at h
  split at h
  · cases h; exact ⟨trivial, rfl⟩
  · cases h; exact ⟨trivial, rfl⟩
  · cases h
  · cases h
theorem xstep_ok (hC : CtxOk P C) {s : AStep} {T : XT} {M : XM} (h : Res P C.G (xstep P C s T M) K E) : stepT P E s K T.A (AMem.ofX P C.G M) := by
  obtain ⟨i, d, gd, op, rd, rc⟩ := s
  unfold xstep at h
  simp only at h
  unfold stepT
  split at h
  · simp only
    have after : Res P C.G (afterX i d T (xcall C op T.A M)) K E → aCall P op T.A (AMem.ofX P C.G M) (afterCall d T.A K E) := fun h => xcall_ok hC (afterX_ok h)
    cases op with
    | q o =>
      have h : Res P C.G (stepQ C i d o T.A T M) K E := h
      unfold stepQ at h
      split at h
      · rename_i v hv
        obtain ⟨h1, h2⟩ := QOp.x_some (P := P) hv
        exact ⟨h1, by rw [h2]; exact putC_ok h⟩
      · exact h.elim
    | n o =>
      have h : Res P C.G (stepN i d o T.A T M) K E := h
      unfold stepN at h
      split at h
      · rename_i b mk hv
        obtain ⟨h1, h2, h3⟩ := NOp.x_some (P := P) hv
        unfold orFail at h
        split at h
        · rename_i r hr
          obtain ⟨M', hr, hM, hn⟩ := XM.push_some (P := P) (G := C.G) hr
          obtain ⟨T', hr, hT⟩ := XT.put_some hr
          cases hr
          refine ⟨h1, ?_⟩
          rw [h2, h3]
          show K (put T.A d (mk (AMem.ofX P C.G M).blks.length)) { AMem.ofX P C.G M with blks := (AMem.ofX P C.G M).blks ++ [b.abs P XT.A] }
          rw [ofX_length, ← hT, ← hM]; exact h
        · exact h.elim
      · exact h.elim
    | e o =>
      have h : Res P C.G (stepE i d o T.A T M) K E := h
      unfold stepE at h
      split at h
      · rename_i v M' hv
        obtain ⟨h1, h2, h3⟩ := EOp.x_some (P := P) (G := C.G) hv
        exact ⟨h1, by rw [h2, h3]; exact putC_ok h⟩
      · exact h.elim
    | isnil kd x neg =>
      have h : Res P C.G (stepNil i d kd neg (aeval T.A x) T M) K E := h
      unfold stepNil at h
      split at h
      · rename_i b hb
        rw [fbool_eq] at h
        exact isnilX_some hb (putC_ok h)
      · exact h.elim
    | call f args => exact after h
    | callv x args => exact after h
    | inv x n args => exact h.elim
    | panic x => exact after h
  · rename_i t want
    simp only
    split at h
    · rename_i hg
      obtain ⟨g1, g2⟩ := gdX_some hg
      have after : Res P C.G (afterX i d T (xcall C op (stripA true T.A) M)) K E → (rg (gdR want (T.A t)) fun p =>
        (∃ v, Clean (AMem.ofX P C.G M).blks.length (AMem.ofX P C.G M).nx v ∧ (p = true → aCall P op (stripA p T.A) (AMem.ofX P C.G M) (fun o' μ' => o' = .ret v ∧ μ' = (AMem.ofX P C.G M))) ∧ K (put T.A d (.opt p v)) (AMem.ofX P C.G M)) ∨
        ((p = true → aCall P op (stripA p T.A) (AMem.ofX P C.G M) (afterCall d T.A K E)) ∧ (p = false → K (put T.A d (.lit undef)) (AMem.ofX P C.G M)))) := by
        intro h
        refine ⟨g1, ?_⟩
        rw [g2]
        exact .inr ⟨fun _ => xcall_ok hC (afterX_ok h), fun e => by cases e⟩
      cases op with
      | q o =>
        have h : Res P C.G (stepQ1 C i d o T M) K E := h
        unfold stepQ1 at h
        split at h
        · rename_i v hv
          rw [fz_eq] at h
          obtain ⟨h1, h2⟩ := QOp.x_some (P := P) hv
          refine ⟨g1, ?_⟩
          rw [g2]
          exact ⟨fun _ => h1, by rw [h2]; exact putC_ok h⟩
        · exact h.elim
      | call f args => exact after h
      | callv x args => exact after h
      | panic x => exact after h
      | _ => exact h.elim
    · rename_i hg
      obtain ⟨g1, g2⟩ := gdX_some hg
      have after : Res P C.G (putC i T d (.opt false (.lit (.bool false))) M) K E → (rg (gdR want (T.A t)) fun p =>
        (∃ v, Clean (AMem.ofX P C.G M).blks.length (AMem.ofX P C.G M).nx v ∧ (p = true → aCall P op (stripA p T.A) (AMem.ofX P C.G M) (fun o' μ' => o' = .ret v ∧ μ' = (AMem.ofX P C.G M))) ∧ K (put T.A d (.opt p v)) (AMem.ofX P C.G M)) ∨
        ((p = true → aCall P op (stripA p T.A) (AMem.ofX P C.G M) (afterCall d T.A K E)) ∧ (p = false → K (put T.A d (.lit undef)) (AMem.ofX P C.G M)))) := by
        intro h
        refine ⟨g1, ?_⟩
        rw [g2]
        exact .inl ⟨.lit (.bool false), by simp [Clean], (fun e => by cases e), putC_ok h⟩
      cases op with
      | q o =>
        have h : Res P C.G (putC i T d (.opt false (o.sem (stripA false T.A) (AMem.ofX P C.G M)).v) M) K E := h
        refine ⟨g1, ?_⟩
        rw [g2]
        exact ⟨(fun e => by cases e), putC_ok h⟩
      | call f args => exact after h
      | callv x args => exact after h
      | panic x => exact after h
      | _ => exact h.elim
    · exact h.elim
theorem xbind_ok {r : XC} {f : XT → XM → XC} {K' : AK} (h : Res P C.G (xbind r f) K E) (hf : ∀ T M, Res P C.G (f T M) K E → K' T.A (AMem.ofX P C.G M)) : Res P C.G r K' E := by
  cases r with
  | norm T M => exact hf T M h
  | out j T M => exact h
  | pan v T M => cases T <;> exact h
  | fail l => exact h.elim
theorem xsteps_ok (hC : CtxOk P C) : ∀ {l : List AStep} {T : XT} {M : XM}, Res P C.G (xsteps P C l T M) K E → stepsT P E l K T.A (AMem.ofX P C.G M)
  | [], T, M, h => h
  | s :: l, T, M, h => by
    have h : Res P C.G (xbind (xstep P C s T M) (xsteps P C l)) K E := h
    exact xstep_ok hC (xbind_ok h fun T M h => xsteps_ok hC h)
/-! ### regions that draw -/
theorem litX_eq {a b : Value} (h : litX a b = true) : a = b := by
  unfold litX at h
  split at h
  · simp only [Bool.and_eq_true, eqX_eq, decide_eq_true_eq] at h
    rw [kindX_iff.1 h.1, h.2]
  · simp only [beq_iff_eq] at h; rw [h]
  · simp only [strX_eq, decide_eq_true_eq] at h; rw [h]
  · rfl
  · rfl
  · rfl
  · rfl
  · cases h
theorem tkX_eq {a b : Tk} (h : tkX a b = true) : a = b := by
  unfold tkX at h
  split at h
  · rfl
  · rfl
  · rfl
  · simp only [Bool.and_eq_true] at h
    rw [beq_iff.1 h.1, beq_iff.1 h.2]
  · cases h
mutual
theorem sameX_eq : ∀ (a b : AVal), sameX a b = true → a = b
  | .lit v, b, h => by
    cases b <;> simp only [sameX] at h <;> first | (rw [litX_eq h]) | cases h
  | .agg l, b, h => by
    cases b <;> simp only [sameX] at h <;> first | (rw [samesX_eq _ _ h]) | cases h
  | .tup l, b, h => by
    cases b <;> simp only [sameX] at h <;> first | (rw [samesX_eq _ _ h]) | cases h
  | .ep l, b, h => by
    cases b <;> simp only [sameX] at h <;> first | (rw [samesX_eq _ _ h]) | cases h
  | .sl n l tk, b, h => by
    cases b <;> simp only [sameX] at h <;> try (cases h; done)
    simp only [Bool.and_eq_true] at h
    rw [beq_iff.1 h.1.1, tkX_eq h.1.2, samesX_eq _ _ h.2]
  | .ptr i o, b, h => by
    cases b <;> simp only [sameX] at h <;> try (cases h; done)
    simp only [Bool.and_eq_true] at h
    rw [beq_iff.1 h.1, beq_iff.1 h.2]
  | .glob i o, b, h => by
    cases b <;> simp only [sameX] at h <;> try (cases h; done)
    simp only [Bool.and_eq_true] at h
    rw [beq_iff.1 h.1, beq_iff.1 h.2]
  | .mp i, b, h => by
    cases b <;> simp only [sameX] at h <;> first | (rw [beq_iff.1 h]) | cases h
  | .yld i, b, h => by
    cases b <;> simp only [sameX] at h <;> first | (rw [beq_iff.1 h]) | cases h
  | .stp i, b, h => by
    cases b <;> simp only [sameX] at h <;> first | (rw [beq_iff.1 h]) | cases h
  | .ms i o n tk, b, h => by
    cases b <;> simp only [sameX] at h <;> try (cases h; done)
    simp only [Bool.and_eq_true] at h
    rw [beq_iff.1 h.1.1.1, beq_iff.1 h.1.1.2, beq_iff.1 h.1.2, tkX_eq h.2]
  | .ifc t v, b, h => by
    cases b <;> simp only [sameX] at h <;> try (cases h; done)
    simp only [Bool.and_eq_true] at h
    rw [beq_iff.1 h.1, sameX_eq _ _ h.2]
  | .opt c v, b, h => by
    cases b <;> simp only [sameX] at h <;> try (cases h; done)
    simp only [Bool.and_eq_true, beq_iff_eq] at h
    rw [h.1, sameX_eq _ _ h.2]
  | .fn f l c, b, h => by
    cases b <;> try (cases f <;> (unfold sameX at h; cases h); done)
    rename_i f' l' c'
    cases f <;> cases f' <;> try (unfold sameX at h; cases h; done)
    unfold sameX at h
    simp only [Bool.and_eq_true] at h
    rw [beq_iff.1 h.1.1, samesX_eq _ _ h.1.2, samesX_eq _ _ h.2]
  | .any, b, h => by cases b <;> (unfold sameX at h; cases h)
theorem samesX_eq : ∀ (a b : List AVal), samesX a b = true → a = b
  | [], [], _ => rfl
  | [], _ :: _, h => by cases h
  | _ :: _, [], h => by cases h
  | a :: l, b :: r, h => by
    simp only [samesX, Bool.and_eq_true] at h
    rw [sameX_eq a b h.1, samesX_eq l r h.2]
end
theorem blkX_eq {a b : XBlk} (h : blkX a b = true) : a = b := by
  unfold blkX at h
  split at h
  · simp only [Bool.and_eq_true] at h
    rw [beq_iff.1 h.1, samesX_eq _ _ h.2]
  · rw [kkX_iff h]
  · cases h
/-- What is checked again. -/
inductive PdOk (P : Program) (G : XG) : XPend → Pend → Prop
  | nil : PdOk P G [] []
  | cons (i : Nat) (c : XM → Bool) (p : AMem → Prop) (l : XPend) (l' : Pend) : (∀ M, c M = true → p (AMem.ofX P G M)) → PdOk P G l l' → PdOk P G ((i, c) :: l) ((i, p) :: l')
theorem rechk_ok {rc : List Nat} {M : XM} : ∀ {l : XPend} {l' : Pend}, PdOk P C.G l l' → rechkX rc l M = true → rechk rc l' (AMem.ofX P C.G M)
  | _, _, .nil, _ => trivial
  | _, _, .cons i c p l l' hp hl, h => by
    have h : (match memX i rc with | true => c M && rechkX rc l M | false => rechkX rc l M) = true := h
    rw [memX_eq] at h
    simp only [rechk]
    by_cases hm : i ∈ rc
    · simp only [hm, decide_true, Bool.and_eq_true] at h
      exact ⟨by rw [if_pos hm]; exact hp M h.1, rechk_ok hl h.2⟩
    · simp only [hm, decide_false] at h
      exact ⟨by rw [if_neg hm]; trivial, rechk_ok hl h⟩
theorem rsX_eq (rd : List Nat) (A : ATmps) : rsX rd A = rsA rd A := by
  funext t
  unfold rsX rsA
  rw [memX_eq]
  by_cases h : t ∈ rd <;> simp [h]
theorem xone_ok (hC : CtxOk P C) {s : AStep} {pdx : XPend} {pd : Pend} (hpd : PdOk P C.G pdx pd) {T : XT} {M : XM} {k : XPend → XT → XM → XC} {K' : Pend → AK} (hk : ∀ pdx pd T M, PdOk P C.G pdx pd → Res P C.G (k pdx T M) K E → K' pd T.A (AMem.ofX P C.G M))
    (h : Res P C.G (xone P C s pdx T M k) K E) : stepD P E s K' pd T.A (AMem.ofX P C.G M) := by
  obtain ⟨i, d, gd, op, rd, rc⟩ := s
  unfold xone at h
  simp only [rsX_eq] at h
  unfold stepD
  have afterD_ok : ∀ {r : XF}, Res P C.G (afterD i d rc pdx T r k) K E → ResF P C.G r (fun o' μ' => (μ' = AMem.ofX P C.G M ∨ rechk rc pd μ') ∧ afterCallD d T.A (K' pd) E o' μ') := by
    intro r h
    cases r with
    | ret v M' =>
      unfold afterD at h
      simp only at h
      split at h
      · rename_i hr
        unfold orFail at h
        split at h
        · rename_i c hc
          obtain ⟨T', hc, hT⟩ := XT.put_some hc
          cases hc
          exact ⟨.inr (rechk_ok hpd hr), by simp only [afterCallD]; rw [← hT]; exact hk _ _ _ _ hpd h⟩
        · exact h.elim
      · exact h.elim
    | panic v M' =>
      unfold afterD at h
      simp only at h
      split at h
      · rename_i hr
        exact ⟨.inr (rechk_ok hpd hr), h⟩
      · exact h.elim
    | fail l => exact h.elim
  split at h
  · simp only
    have after : Res P C.G (afterD i d rc pdx T (xcall C op (rsA rd T.A) M) k) K E → aCall P op (rsA rd T.A) (AMem.ofX P C.G M) (fun o' μ' => (μ' = AMem.ofX P C.G M ∨ rechk rc pd μ') ∧ afterCallD d T.A (K' pd) E o' μ') := fun h => xcall_ok hC (afterD_ok h)
    cases op with
    | q o =>
      have h : Res P C.G (oneQ C i d o (rsA rd T.A) pdx T M k) K E := h
      unfold oneQ at h
      split at h
      · rename_i v hv
        rw [fz_eq] at h
        obtain ⟨h1, h2⟩ := QOp.x_some (P := P) hv
        unfold orFail at h
        split at h
        · rename_i c hc
          obtain ⟨T', hc, hT⟩ := XT.put_some hc
          cases hc
          refine ⟨h1, ?_⟩
          rw [h2]
          show K' (_ :: pd) (put T.A d v) (AMem.ofX P C.G M)
          rw [← hT]
          refine hk _ _ _ _ (.cons _ _ _ _ _ ?_ hpd) h
          intro M' hM'
          split at hM'
          · rename_i v' hv'
            obtain ⟨h3, h4⟩ := QOp.x_some (P := P) hv'
            exact ⟨h3, by rw [h4, sameX_eq _ _ hM']⟩
          · cases hM'
        · exact h.elim
      · exact h.elim
    | n o =>
      have h : Res P C.G (oneN i d o (rsA rd T.A) pdx T M k) K E := h
      unfold oneN at h
      split at h
      · rename_i b mk hv
        obtain ⟨h1, h2, h3⟩ := NOp.x_some (P := P) hv
        unfold orFail at h
        split at h
        · rename_i r hr
          obtain ⟨M', hr, hM, hn⟩ := XM.push_some (P := P) (G := C.G) hr
          obtain ⟨T', hr, hT⟩ := XT.put_some hr
          cases hr
          refine ⟨h1, ?_⟩
          rw [h2, h3]
          show K' (_ :: pd) (put T.A d (mk (AMem.ofX P C.G M).blks.length)) { AMem.ofX P C.G M with blks := (AMem.ofX P C.G M).blks ++ [b.abs P XT.A] }
          rw [ofX_length, ← hT, ← hM]
          refine hk _ _ _ _ (.cons _ _ _ _ _ ?_ hpd) h
          intro M2 hM2
          split at hM2
          · rename_i b' hb'
            rw [XM.get_some (P := P) (G := C.G) hb', blkX_eq hM2]
          · cases hM2
        · exact h.elim
      · exact h.elim
    | e o =>
      have h : Res P C.G (oneE i d rc o (rsA rd T.A) pdx T M k) K E := h
      unfold oneE at h
      split at h
      · rename_i v M' hv
        obtain ⟨h1, h2, h3⟩ := EOp.x_some (P := P) (G := C.G) hv
        split at h
        · rename_i hr
          unfold orFail at h
          split at h
          · rename_i c hc
            obtain ⟨T', hc, hT⟩ := XT.put_some hc
            cases hc
            refine ⟨h1, ?_⟩
            rw [h2, h3]
            show rechk rc pd (AMem.ofX P C.G M') ∧ K' pd (put T.A d v) (AMem.ofX P C.G M')
            rw [← hT]
            exact ⟨rechk_ok hpd hr, hk _ _ _ _ hpd h⟩
          · exact h.elim
        · exact h.elim
      · exact h.elim
    | call f args => exact after h
    | callv x args => exact after h
    | panic x => exact after h
    | _ => exact h.elim
  · rename_i t want
    simp only
    split at h
    · rename_i hg
      obtain ⟨g1, g2⟩ := gdX_some hg
      have after : Res P C.G (afterD i d rc pdx T (xcall C op (stripA true (rsA rd T.A)) M) k) K E → (rg (gdR want (rsA rd T.A t)) fun p =>
          (∃ v, Clean (AMem.ofX P C.G M).blks.length (AMem.ofX P C.G M).nx v ∧ (p = true → aCall P op (stripA p (rsA rd T.A)) (AMem.ofX P C.G M) (fun o' μ' => o' = .ret v ∧ μ' = AMem.ofX P C.G M)) ∧ K' pd (put T.A d (.opt p v)) (AMem.ofX P C.G M)) ∨
          ((p = true → aCall P op (stripA p (rsA rd T.A)) (AMem.ofX P C.G M) fun o' μ' => (μ' = AMem.ofX P C.G M ∨ rechk rc pd μ') ∧ afterCallD d T.A (K' pd) E o' μ') ∧ (p = false → K' pd (put T.A d (.opt false (.lit (.bool false)))) (AMem.ofX P C.G M)))) := by
        intro h
        refine ⟨g1, ?_⟩
        rw [g2]
        exact .inr ⟨fun _ => xcall_ok hC (afterD_ok h), fun e => by cases e⟩
      cases op with
      | q o =>
        have h : Res P C.G (oneQ1 C i d o (stripA true (rsA rd T.A)) pdx T M k) K E := h
        unfold oneQ1 at h
        split at h
        · rename_i v hv
          rw [fz_eq] at h
          obtain ⟨h1, h2⟩ := QOp.x_some (P := P) hv
          unfold orFail at h
          split at h
          · rename_i c hc
            obtain ⟨T', hc, hT⟩ := XT.put_some hc
            cases hc
            refine ⟨g1, ?_⟩
            rw [g2]
            refine ⟨fun _ => h1, ?_⟩
            rw [h2]
            show K' (_ :: pd) (put T.A d (.opt true v)) (AMem.ofX P C.G M)
            rw [← hT]
            refine hk _ _ _ _ (.cons _ _ _ _ _ ?_ hpd) h
            intro M' hM' _
            split at hM'
            · rename_i v' hv'
              obtain ⟨h3, h4⟩ := QOp.x_some (P := P) hv'
              exact ⟨h3, by rw [h4, sameX_eq _ _ hM']⟩
            · cases hM'
          · exact h.elim
        · exact h.elim
      | call f args => exact after h
      | callv x args => exact after h
      | panic x => exact after h
      | _ => exact h.elim
    · rename_i hg
      obtain ⟨g1, g2⟩ := gdX_some hg
      have after : Res P C.G (orFail i (T.put d (.opt false (.lit (.bool false))) fun T => some (k pdx T M))) K E → (rg (gdR want (rsA rd T.A t)) fun p =>
          (∃ v, Clean (AMem.ofX P C.G M).blks.length (AMem.ofX P C.G M).nx v ∧ (p = true → aCall P op (stripA p (rsA rd T.A)) (AMem.ofX P C.G M) (fun o' μ' => o' = .ret v ∧ μ' = AMem.ofX P C.G M)) ∧ K' pd (put T.A d (.opt p v)) (AMem.ofX P C.G M)) ∨
          ((p = true → aCall P op (stripA p (rsA rd T.A)) (AMem.ofX P C.G M) fun o' μ' => (μ' = AMem.ofX P C.G M ∨ rechk rc pd μ') ∧ afterCallD d T.A (K' pd) E o' μ') ∧ (p = false → K' pd (put T.A d (.opt false (.lit (.bool false)))) (AMem.ofX P C.G M)))) := by
        intro h
        unfold orFail at h
        split at h
        · rename_i c hc
          obtain ⟨T', hc, hT⟩ := XT.put_some hc
          cases hc
          refine ⟨g1, ?_⟩
          rw [g2]
          refine .inr ⟨fun e => (by cases e), fun _ => ?_⟩
          rw [← hT]; exact hk _ _ _ _ hpd h
        · exact h.elim
      cases op with
      | q o =>
        have h : Res P C.G (orFail i (T.put d (.opt false (o.sem (stripA false (rsA rd T.A)) (AMem.ofX P C.G M)).v) fun T' => some (k ((i, fun _ => true) :: pdx) T' M))) K E := h
        unfold orFail at h
        split at h
        · rename_i c hc
          obtain ⟨T', hc, hT⟩ := XT.put_some hc
          cases hc
          refine ⟨g1, ?_⟩
          rw [g2]
          refine ⟨fun e => (by cases e), ?_⟩
          show K' (_ :: pd) (put T.A d (.opt false _)) (AMem.ofX P C.G M)
          rw [← hT]
          exact hk _ _ _ _ (.cons _ _ _ _ _ (fun M' _ e => by cases e) hpd) h
        · exact h.elim
      | call f args => exact after h
      | callv x args => exact after h
      | panic x => exact after h
      | _ => exact h.elim
    · exact h.elim
end Go.Proofs.YtjleeecaebgblaaGreatDoor.AL
namespace Go.Proofs.YtjleeecaebgblaaGreatDoor.AL
open Go.RowKit
variable {P : Program} {C : XCtx} {K : AK} {E : AE}
/-! ### two stores -/
theorem storeR_form {n : Nat} {μ : AMem} {id off : Nat} {v : AVal} (h : (storeR n μ (.ptr id off) v).ok) : ∃ b b', μ.blks[id]? = some b ∧ ∀ μ' : AMem, μ'.blks[id]? = some b → (storeR n μ' (.ptr id off) v).ok ∧ (storeR n μ' (.ptr id off) v).v = .any ∧ (storeR n μ' (.ptr id off) v).μ = { μ' with blks := μ'.blks.set id b' } := by
  unfold storeR at h
  simp only at h
  split at h
  · rename_i bt cs hb
    exact ⟨_, _, hb, fun μ' h' => by simp only [storeR, h']; exact ⟨h, trivial, rfl⟩⟩
  · rename_i bt cs hb
    exact ⟨_, _, hb, fun μ' h' => by simp only [storeR, h']; exact ⟨h, trivial, rfl⟩⟩
  · exact h.elim
theorem storeAt_some {op : SOp} {gd : Option (Nat × Bool)} {d : Option Nat} {A : ATmps} {n id : Nat} {x v : AVal} (h : storeAt op gd d A = some (n, id, x, v)) : gd = none ∧ d = none ∧ (∃ xo vo, op = .e (.store n xo vo) ∧ aeval A xo = x ∧ aeval A vo = v) ∧ ∃ off, x = .ptr id off := by
  unfold storeAt at h
  split at h
  · split at h
    · rename_i hx
      cases h
      exact ⟨rfl, rfl, ⟨_, _, rfl, hx, rfl⟩, _, rfl⟩
    · cases h
  · cases h
theorem twoX_ok {s t : AStep} {pdx : XPend} {pd : Pend} (hpd : PdOk P C.G pdx pd) {T : XT} {M M3 : XM} {K' : Pend → AK} (h : twoX s t pdx T M = some M3) (hk : K' pd T.A (AMem.ofX P C.G M3)) :
    stepD P E s (stepD P E t K') pd T.A (AMem.ofX P C.G M) ∧ stepD P E t (stepD P E s K') pd T.A (AMem.ofX P C.G M) := by
  unfold twoX at h
  simp only [rsX_eq] at h
  split at h
  · rename_i n1 i1 x1 v1 n2 i2 x2 v2 hs ht
    obtain ⟨g1, d1, ⟨xo1, vo1, o1, e1, f1⟩, off1, rfl⟩ := storeAt_some hs
    obtain ⟨g2, d2, ⟨xo2, vo2, o2, e2, f2⟩, off2, rfl⟩ := storeAt_some ht
    split at h
    · cases h
    · rename_i hne
      have hne : i1 ≠ i2 := fun e => by rw [beq_iff.2 e] at hne; cases hne
      split at h
      · rename_i M1 M2 hM1 hM2
        split at h
        · rename_i M3' hM3
          split at h
          · rename_i hre
            cases h
            simp only [Bool.and_eq_true] at hre
            obtain ⟨⟨⟨r1, r2⟩, r3⟩, r4⟩ := hre
            obtain ⟨a1, a2, a3⟩ := storeX_some (P := P) (G := C.G) hM1
            obtain ⟨b1, b2, b3⟩ := storeX_some (P := P) (G := C.G) hM2
            obtain ⟨c1, c2, c3⟩ := storeX_some (P := P) (G := C.G) hM3
            obtain ⟨p1, q1, hp1, hq1⟩ := storeR_form a1
            obtain ⟨p2, q2, hp2, hq2⟩ := storeR_form b1
            have hm1 : AMem.ofX P C.G M1 = { AMem.ofX P C.G M with blks := (AMem.ofX P C.G M).blks.set i1 q1 } := by rw [← a3]; exact (hq1 _ hp1).2.2
            have hm2 : AMem.ofX P C.G M2 = { AMem.ofX P C.G M with blks := (AMem.ofX P C.G M).blks.set i2 q2 } := by rw [← b3]; exact (hq2 _ hp2).2.2
            have hp2' : (AMem.ofX P C.G M1).blks[i2]? = some p2 := by rw [hm1]; simp only; rw [List.getElem?_set_ne hne]; exact hp2
            have hp1' : (AMem.ofX P C.G M2).blks[i1]? = some p1 := by rw [hm2]; simp only; rw [List.getElem?_set_ne (Ne.symm hne)]; exact hp1
            have hm3 : AMem.ofX P C.G M3 = { AMem.ofX P C.G M1 with blks := (AMem.ofX P C.G M1).blks.set i2 q2 } := by rw [← c3]; exact (hq2 _ hp2').2.2
            have hx := hq1 _ hp1'
            have hm3' : (storeR n1 (AMem.ofX P C.G M2) (.ptr i1 off1) v1).μ = AMem.ofX P C.G M3 := by
              rw [hx.2.2, hm3, hm1, hm2]
              simp only [AMem.mk.injEq, and_true]
              exact List.set_comm _ _ (Ne.symm hne)
            constructor
            · unfold stepD
              rw [g1, o1]
              show re (storeR n1 (AMem.ofX P C.G M) (aeval (rsA s.rd T.A) xo1) (aeval (rsA s.rd T.A) vo1)) _
              rw [e1, f1]
              refine ⟨a1, ?_⟩
              rw [a3]
              refine ⟨rechk_ok hpd r1, ?_⟩
              rw [d1]
              show stepD P E t K' pd T.A (AMem.ofX P C.G M1)
              unfold stepD
              rw [g2, o2]
              show re (storeR n2 (AMem.ofX P C.G M1) (aeval (rsA t.rd T.A) xo2) (aeval (rsA t.rd T.A) vo2)) _
              rw [e2, f2]
              refine ⟨c1, ?_⟩
              rw [c3]
              refine ⟨rechk_ok hpd r2, ?_⟩
              rw [d2]
              exact hk
            · unfold stepD
              rw [g2, o2]
              show re (storeR n2 (AMem.ofX P C.G M) (aeval (rsA t.rd T.A) xo2) (aeval (rsA t.rd T.A) vo2)) _
              rw [e2, f2]
              refine ⟨b1, ?_⟩
              rw [b3]
              refine ⟨rechk_ok hpd r3, ?_⟩
              rw [d2]
              show stepD P E s K' pd T.A (AMem.ofX P C.G M2)
              unfold stepD
              rw [g1, o1]
              show re (storeR n1 (AMem.ofX P C.G M2) (aeval (rsA s.rd T.A) xo1) (aeval (rsA s.rd T.A) vo1)) _
              rw [e1, f1]
              refine ⟨hx.1, ?_⟩
              rw [hm3']
              refine ⟨rechk_ok hpd r4, ?_⟩
              rw [d1]
              exact hk
          · cases h
        · cases h
      · cases h
  · cases h
theorem xdraw_ok (hC : CtxOk P C) : ∀ {l : List DStep} {pdx : XPend} {pd : Pend} {T : XT} {M : XM}, PdOk P C.G pdx pd → Res P C.G (xdraw P C l pdx T M) K E → stepsD P E K l pd T.A (AMem.ofX P C.G M)
  | [], pdx, pd, T, M, hpd, h => h
  | .one s :: l, pdx, pd, T, M, hpd, h => by
    have h : Res P C.G (xone P C s pdx T M (xdraw P C l)) K E := h
    exact xone_ok hC hpd (fun pdx pd T M hpd h => xdraw_ok hC hpd h) h
  | .two s t :: l, pdx, pd, T, M, hpd, h => by
    have h : Res P C.G (match twoX s t pdx T M with | some M => xdraw P C l pdx T M | none => .fail [s.i, 143]) K E := h
    split at h
    · rename_i M3 h3
      exact twoX_ok hpd h3 (xdraw_ok hC hpd h)
    · exact h.elim
theorem hideT_some : ∀ {ds : List Nat} {T : XT} {k : XT → Option XC} {r : XC}, hideT ds T k = some r → ∃ T', k T' = some r ∧ T'.A = hideA ds T.A
  | [], T, k, r, h => ⟨T, h, by funext t; simp [hideA]⟩
  | d :: ds, T, k, r, h => by
    have h : (T.put (some d) .any fun T => hideT ds T k) = some r := h
    obtain ⟨T1, h, hT1⟩ := XT.put_some h
    obtain ⟨T2, h, hT2⟩ := hideT_some h
    refine ⟨T2, h, ?_⟩
    rw [hT2, hT1]
    funext t
    simp only [hideA, List.contains_iff_mem, List.mem_cons]
    by_cases h1 : t ∈ ds
    · simp [h1]
    · by_cases h2 : t = d
      · subst h2; simp [h1, put]
      · simp [h1, h2, put]
theorem hideX_ok {ds : List Nat} {r : XC} (h : Res P C.G (hideX ds r) K E) : Res P C.G r K (hideE ds E) := by
  cases r with
  | norm T M => exact h
  | out j T M => exact h.elim
  | pan v T M =>
    cases T with
    | none => exact h.elim
    | some T =>
      have h : Res P C.G (orFail 0 (hideT ds T fun T => some (.pan v (some T) M))) K E := h
      unfold orFail at h
      split at h
      · rename_i r hr
        obtain ⟨T', hk, hT⟩ := hideT_some hr
        cases hk
        show E (.panic v) (hideA ds T.A) _
        rw [← hT]; exact h
      · exact h.elim
  | fail l => exact h
/-! ### code -/
theorem xiter_ok {step : AK → AK} {f : XT → XM → XC} (hf : ∀ T M K', Res P C.G (f T M) K' E → step K' T.A (AMem.ofX P C.G M)) : ∀ (k : Nat) (T : XT) (M : XM), Res P C.G (xiter f k T M) K E → rounds step k T.A (AMem.ofX P C.G M)
  | 0, T, M, h => h.elim
  | k + 1, T, M, h => by
    have h : Res P C.G (xbind (f T M) (xiter f k)) K E := h
    exact hf T M _ (xbind_ok h fun T M h => xiter_ok hf k T M h)
theorem xblock_ok {id : Nat} {r : XC} (h : Res P C.G (xblock id r) K E) : Res P C.G r K (fun e A μ => match e with
      | .exit j => if j = id then K A μ else E (.exit j) A μ
      | e => E e A μ) := by
  cases r with
  | norm T M => exact h
  | out j T M =>
    cases j with
    | ret => exact h
    | goto l => exact h
    | exit j =>
      unfold xblock at h
      simp only at h
      show if j = id then K T.A (AMem.ofX P C.G M) else E (.exit j) T.A (AMem.ofX P C.G M)
      split at h
      · rename_i hb; rw [if_pos (beq_iff.1 hb)]; exact h
      · rename_i hb; rw [if_neg (fun e => by rw [beq_iff.2 e] at hb; cases hb)]; exact h
  | pan v T M => cases T <;> exact h
  | fail l => exact h.elim
theorem xscope_ok {r : XC} (h : Res P C.G (xscope r) K E) : Res P C.G r K (fun e A μ => match e with
      | .goto _ => False
      | e => E e A μ) := by
  cases r with
  | norm T M => exact h
  | out j T M => cases j <;> exact h
  | pan v T M => cases T <;> exact h
  | fail l => exact h.elim
theorem afterRangeX_ok {l : Nat} {T : XT} {r : XF} (h : Res P C.G (afterRangeX l T r) K E) : ResF P C.G r (afterRange l T.A K E) := by
  cases r with
  | ret v M2 =>
    unfold afterRangeX at h
    simp only at h
    split at h
    · exact h.elim
    · rename_i st pend N T' ps a b hnb hb
      unfold orFail at h
      split at h
      · rename_i c hc
        obtain ⟨M3, hc, hM3, _⟩ := XM.set_some (P := P) (G := C.G) hc
        cases hc
        refine ⟨_, XM.get_some (P := P) (G := C.G) hb, fun e => hnb e, ?_⟩
        have hM3 : AMem.ofX P C.G M3 = { AMem.ofX P C.G M2 with blks := (AMem.ofX P C.G M2).blks.set l .dead } := hM3
        rw [← hM3]
        cases pend with
        | none => exact h
        | some j => cases j <;> exact h
      · exact h.elim
    · exact h.elim
  | panic v M2 => exact h
  | fail l => exact h.elim
theorem xrange_ok (hC : CtxOk P C) {N : Nat} {x : AVal} {ps : List Nat} {a b : ACode} {T : XT} {M : XM} (h : Res P C.G (xrange C N x ps a b T M) K E) : aRange P C.r N x ps a b K E T.A (AMem.ofX P C.G M) := by
  unfold xrange at h
  split at h
  · rename_i f fs cs
    unfold orFail at h
    split at h
    · rename_i c hc
      simp only [fapp_eq] at hc
      unfold xenter at hc
      unfold aRange
      simp only
      split at hc
      · rename_i id hr
        rw [hr]
        split at hc
        · rename_i hg
          obtain ⟨M', hc, hM', hn⟩ := XM.push_some (P := P) (G := C.G) hc
          cases hc
          refine ⟨⟨_, XM.get_some (P := P) (G := C.G) hg⟩, ?_⟩
          have := hC.call _ _ _ _ (afterRangeX_ok h)
          rw [hM'] at this
          simp only [enteredAt, entered, ofX_length]
          simp only [List.append_assoc]
          exact this
        · cases hc
      · rename_i hr
        rw [hr]
        obtain ⟨M1, hc, hM1, hn1⟩ := XM.push_some (P := P) (G := C.G) hc
        obtain ⟨M2, hc, hM2, hn2⟩ := XM.push_some (P := P) (G := C.G) hc
        cases hc
        refine ⟨trivial, ?_⟩
        have := hC.call _ _ _ _ (afterRangeX_ok h)
        rw [defer_eq, hM2, hM1, hn1] at this
        simp only [enteredAt, entered, ofX_length]
        simp only [List.append_assoc] at this ⊢
        exact this
    · exact h.elim
  · exact h.elim
theorem xdefer_ok (hC : CtxOk P C) {x : AVal} {args : List Operand} {T : XT} {M : XM} (h : Res P C.G (xdefer C x args T M) K E) : aDefer P C.r x (args.map (aeval T.A)) (AMem.ofX P C.G M) fun μ' => K T.A μ' := by
  unfold xdefer at h
  split at h
  · rename_i f fs cs hr
    split at h
    · rename_i hd
      rw [evalsX_eq, fapp_eq, fapp_eq] at h
      unfold aDefer
      simp only
      refine ⟨⟨hr, hC.dfr _ hd⟩, ?_⟩
      have h : K T.A (AMem.ofX P C.G (M.defer (.fn f (fs ++ (args.map (aeval T.A) ++ cs))))) := h
      rw [defer_eq] at h
      rw [List.append_assoc]
      exact h
    · exact h.elim
  · exact h.elim
theorem xcond_ok {v : AVal} {a b : XC} {k : Bool → Prop} (ha : Res P C.G a K E → k true) (hb : Res P C.G b K E → k false) (h : Res P C.G (xcond v a b) K E) : cnd v k := by
  unfold xcond at h
  split at h
  · rename_i t
    cases t with
    | true => exact ha h
    | false => exact hb h
  · exact h.elim
theorem xcode_ok (hC : CtxOk P C) {b : Base} (hb : b.r = C.r) : ∀ (c : ACode) (T : XT) (M : XM) {K : AK} {E : AE}, Res P C.G (xcode P C c T M) K E → awp P b c K E T.A (AMem.ofX P C.G M) := by
  intro c
  induction c with
  | skip => intro T M K E h; exact h
  | region l => intro T M K E h; exact xsteps_ok hC h
  | draw l => intro T M K E h; exact xdraw_ok hC .nil (hideX_ok h)
  | seq x y ihx ihy =>
    intro T M K E h
    have h : Res P C.G (xbind (xcode P C x T M) (xcode P C y)) K E := h
    exact ihx T M (xbind_ok h fun T M h => ihy T M h)
  | cond c x y ihx ihy =>
    intro T M K E h
    have h : Res P C.G (xcond (aeval T.A c) (xcode P C x T M) (xcode P C y T M)) K E := h
    exact xcond_ok (fun h => ⟨fun _ => ihx T M h, fun e => (by cases e)⟩) (fun h => ⟨fun e => (by cases e), fun _ => ihy T M h⟩) h
  | block id c ih =>
    intro T M K E h
    have h : Res P C.G (xblock id (xcode P C c T M)) K E := h
    exact ih T M (xblock_ok h)
  | loop c ih =>
    intro T M K E h
    have h : Res P C.G (xiter (xcode P C c) C.fuel T M) K E := h
    exact .inl ⟨C.fuel, xiter_ok (fun T M K' h => ih T M h) _ T M h⟩
  | exit id => intro T M K E h; exact h
  | scope c ih =>
    intro T M K E h
    have h : Res P C.G (xscope (xcode P C c T M)) K E := h
    exact ih T M (xscope_ok h)
  | label l => intro T M K E h; exact h
  | goto l => intro T M K E h; exact h
  | ret => intro T M K E h; exact h
  | rangeF N g ps x y ihx ihy =>
    intro T M K E h
    have h : Res P C.G (xrange C N (aeval T.A g) ps x y T M) K E := h
    show aRange P b.r N (aeval T.A g) ps x y K E T.A (AMem.ofX P C.G M)
    rw [hb]; exact xrange_ok hC h
  | deferR l x args =>
    intro T M K E h
    have h : Res P C.G (xbind (xsteps P C l T M) fun T M => xdefer C (aeval T.A x) args T M) K E := h
    refine xsteps_ok hC (xbind_ok h fun T M h => ?_)
    rw [hb]; exact xdefer_ok hC h
/-! ### functions -/
theorem ADCalls.mono {f : FuncId} {args : List AVal} {m : Option AVal} {μ : AMem} {Q Q' : AMem → Prop} (h : ADCalls P f args m μ Q) (k : ∀ μ', Q μ' → Q' μ') : ADCalls P f args m μ Q' :=
  ⟨fun g w cargs u h1 h2 h3 h4 h5 => (h.out g w cargs u h1 h2 h3 h4 h5).mono fun e u' w' ⟨v, μ', g', a, b, q, r⟩ => ⟨v, μ', g', a, b, k μ' q, r⟩⟩
theorem E8_A : E8.A = fun _ => .lit undef := by
  have step : ∀ {d : Nat} (t : Tn AVal d), (∀ i, t.get i = .lit undef) → ∀ i, Tn.get (.node t t) i = .lit undef := by
    intro d t ht i
    rcases Nat.mod_two_eq_zero_or_one i with h | h
    · rw [Tn.get_node0 _ _ _ h]; exact ht _
    · rw [Tn.get_node1 _ _ _ h]; exact ht _
  have h0 : ∀ i, E0.get i = .lit undef := fun i => rfl
  have h8 : ∀ i, Tn.get E8 i = .lit undef := step E7 (step E6 (step E5 (step E4 (step E3 (step E2 (step E1 (step E0 h0)))))))
  funext t
  unfold XT.A
  split
  · exact h8 t
  · rfl
theorem argsT_some {β : Type} : ∀ {l : List AVal} {i : Nat} {T : XT} {k : XT → Option β} {r : β}, argsT l i T k = some r → ∃ T', k T' = some r ∧ ∀ t, T'.A t = if i ≤ t ∧ t < i + l.length then l.getD (t - i) (.lit undef) else T.A t
  | [], i, T, k, r, h => ⟨T, h, fun t => by rw [if_neg (by simp)]⟩
  | a :: l, i, T, k, r, h => by
    have h : (T.put (some i) a fun T => argsT l (i + 1) T k) = some r := h
    obtain ⟨T1, h, hT1⟩ := XT.put_some h
    obtain ⟨T2, h, hT2⟩ := argsT_some h
    refine ⟨T2, h, fun t => ?_⟩
    rw [hT2 t, hT1]
    simp only [put, List.length_cons]
    by_cases h1 : t = i
    · subst h1
      rw [if_neg (by omega), if_pos rfl, if_pos (by omega)]
      simp
    · by_cases h2 : i + 1 ≤ t ∧ t < i + 1 + l.length
      · rw [if_pos h2, if_pos (by omega)]
        have : t - i = (t - (i + 1)) + 1 := by omega
        rw [this, List.getD_cons_succ]
      · rw [if_neg h2, if_neg h1, if_neg (by omega)]
theorem argsT_A0 {β : Type} {l : List AVal} {k : XT → Option β} {r : β} (h : argsT l 0 E8 k = some r) : ∃ T', k T' = some r ∧ T'.A = A0 l := by
  obtain ⟨T', h, hT⟩ := argsT_some h
  refine ⟨T', h, ?_⟩
  funext t
  rw [hT t, E8_A]
  unfold A0
  by_cases ht : t < l.length
  · rw [if_pos (by omega)]; rfl
  · rw [if_neg (by omega), List.getD_eq_getElem?_getD, List.getElem?_eq_none (by omega)]; rfl
theorem retX_some {T : XT} {M : XM} : ∀ {res : List RV} {vs : List AVal}, retX C.G T M res = some vs → (retVs T.A (AMem.ofX P C.G M) res).ok ∧ (retVs T.A (AMem.ofX P C.G M) res).cs = vs
  | [], vs, h => by simp only [retX] at h; cases h; exact ⟨trivial, rfl⟩
  | .tmp t :: l, vs, h => by
    simp only [retX] at h
    split at h
    · rename_i vs' hv
      rw [fz_eq] at h
      cases h
      obtain ⟨h1, h2⟩ := retX_some (T := T) (M := M) hv
      simp only [retVs]; exact ⟨h1, by rw [h2]⟩
    · cases h
  | .cell kd t :: l, vs, h => by
    simp only [retX] at h
    split at h
    · rename_i v vs' hv hvs
      cases h
      obtain ⟨h1, h2⟩ := retX_some (T := T) (M := M) hvs
      obtain ⟨h3, h4⟩ := derefX_some (P := P) hv
      obtain ⟨h5, h6⟩ := loadX_some h3 h4
      simp only [retVs]; exact ⟨⟨h5, h1⟩, by rw [h2, h6]⟩
    · cases h
theorem leaveX_ok {b : Base} {res : List RV} {Q : AOut → AMem → Prop} {dc : FuncId → List AVal → Option AVal → XM → Option XM}
    (hdc : ∀ f args m M M', dc f args m M = some M' → callable P f = true ∧ ADCalls P f args m (AMem.ofX P C.G M) (fun μ' => μ' = AMem.ofX P C.G M')) :
    ∀ (ds : List ADef) (m : Option AVal) (T : Option XT) (M : XM) (A : ATmps), (∀ T', T = some T' → A = T'.A) → ResF P C.G (leaveX C.G res dc ds m T M) Q → leaveA P b res Q ds m A (AMem.ofX P C.G M) := by
  intro ds
  induction ds with
  | nil =>
    intro m T M A hA h
    cases m with
    | none =>
      unfold leaveX at h
      split at h
      · rename_i T'
        split at h
        · rename_i vs hvs
          rw [hA T' rfl]
          obtain ⟨h1, h2⟩ := retX_some (P := P) hvs
          refine ⟨h1, .inl ?_⟩
          rw [h2]; exact h
        · exact h.elim
      · exact h.elim
    | some v => exact .inl h
  | cons d ds ih =>
    intro m T M A hA h
    cases d with
    | mark id =>
      unfold leaveX at h
      split at h
      · rename_i hg
        split at h
        · rename_i M1 hs
          obtain ⟨M2, hs, hM2, _⟩ := XM.set_some (P := P) (G := C.G) hs
          cases hs
          refine ⟨XM.get_some (P := P) (G := C.G) hg, ?_⟩
          have hM2 : AMem.ofX P C.G M1 = { AMem.ofX P C.G M with blks := (AMem.ofX P C.G M).blks.set id .dead } := hM2
          rw [← hM2]
          exact ih m T M1 A hA h
        · exact h.elim
      · exact h.elim
    | fn f args =>
      unfold leaveX at h
      split at h
      · rename_i M1 hd
        obtain ⟨h1, h2⟩ := hdc _ _ _ _ _ hd
        refine ⟨h1, h2.mono ?_⟩
        rintro μ' rfl
        exact ih none T M1 A hA h
      · exact h.elim
/-- A table of functions that tells the truth. -/
structure TabOk (P : Program) (G : XG) (tab : XTab) : Prop where
  fn : ∀ f F, tab.fn f = some F → callable P f = true ∧ ∃ mu, mkFn P mu f = some F
  dfn : ∀ f D, tab.dfn f = some D → callable P f = true ∧ ∃ mu, mkDFn P mu f = some D
  memo : ∀ f args v, tab.memo f args = some v → ∀ M, calls P f args (AMem.ofX P G M) (fun o μ' => o = .ret v ∧ μ' = AMem.ofX P G M)
theorem bare_bare (μ : AMem) (d e : List ADef) : (μ.bare d).bare e = μ.bare e := rfl
theorem bare_self (μ : AMem) : μ.bare μ.df = μ := rfl
theorem xdcall_ok (hm : P.follows .mixedOrders = true) {tab : XTab} (hT : TabOk P C.G tab) (hC : CtxOk P C) (hr : C.r = none) {f : FuncId} {args : List AVal} {m : Option AVal} {M M' : XM} (h : xdcall P tab C f args m M = some M') :
    callable P f = true ∧ ADCalls P f args m (AMem.ofX P C.G M) (fun μ' => μ' = AMem.ofX P C.G M') := by
  unfold xdcall at h
  split at h
  · rename_i D hD
    obtain ⟨hcal, mu, hD⟩ := hT.dfn f D hD
    refine ⟨hcal, ?_⟩
    split at h
    · rename_i hle
      obtain ⟨T1, h, hT1⟩ := argsT_A0 h
      obtain ⟨T2, h, hT2⟩ := XT.put_some h
      obtain ⟨T3, h, hT3⟩ := XT.put_some h
      refine ADCalls.of hm hD (ble_iff.1 hle) fun _ _ => ?_
      rw [← hT1, ← hT2, ← hT3, ← bareX_eq (P := P) (G := C.G)]
      refine xcode_ok hC hr.symm D.body T3 (bareX M []) ?_
      split at h
      · rename_i T4 M4 hx
        rw [hx]
        split at h
        · rename_i hdf
          cases h
          refine ⟨hdf, ?_⟩
          rw [bareX_eq]; rfl
        · cases h
      · rename_i T4 M4 hx
        rw [hx]
        split at h
        · rename_i hdf
          cases h
          refine ⟨hdf, ?_⟩
          rw [bareX_eq]; rfl
        · cases h
      · cases h
    · cases h
  · cases h
theorem finX_ok (hm : P.follows .mixedOrders = true) {tab : XTab} (hT : TabOk P C.G tab) (hC : CtxOk P C) (hr : C.r = none) {b : Base} {res : List RV} {f : FuncId} {d : List ADef} {m : Option AVal} {T : Option XT} {M : XM} {Q : AOut → AMem → Prop} {A : ATmps} (hA : ∀ T', T = some T' → A = T'.A)
    (h : ResF P C.G (finX P tab C res f d m T M) Q) : leaveA P b res (fun o μ' => Q o (μ'.bare d)) (AMem.ofX P C.G M).df m A ((AMem.ofX P C.G M).bare []) := by
  rw [← bareX_eq]
  refine leaveX_ok (fun f args m M M' h => xdcall_ok hm hT hC hr h) M.df m T (bareX M []) A hA ?_
  unfold finX at h
  split at h
  · rename_i v M1 hl
    rw [hl]
    have h : Q (.ret v) (AMem.ofX P C.G (bareX M1 d)) := h
    rw [bareX_eq] at h; exact h
  · rename_i v M1 hl
    rw [hl]
    have h : Q (.panic v) (AMem.ofX P C.G (bareX M1 d)) := h
    rw [bareX_eq] at h; exact h
  · exact h.elim
theorem xfn_ok (hm : P.follows .mixedOrders = true) {tab : XTab} (hT : TabOk P C.G tab) (hC : CtxOk P C) (hr : C.r = none) {f : FuncId} {args : List AVal} {M : XM} {Q : AOut → AMem → Prop} (h : ResF P C.G (xfn P tab C f args M) Q) : calls P f args (AMem.ofX P C.G M) Q := by
  unfold xfn at h
  split at h
  · rename_i v hv
    have := hT.memo f args v hv M
    refine ⟨this.1, this.2.mono ?_⟩
    rintro o μ' ⟨rfl, rfl⟩
    exact h
  · split at h
    · rename_i F hF
      obtain ⟨hcal, mu, hF⟩ := hT.fn f F hF
      refine ⟨hcal, ?_⟩
      unfold bodyX at h
      split at h
      · rename_i T hle hT1
        obtain ⟨T', he, hT'⟩ := argsT_A0 hT1
        cases he
        refine ACalls.of hm hF (ble_iff.1 hle) fun _ _ => ?_
        rw [← hT', ← bareX_eq (P := P) (G := C.G)]
        refine xcode_ok hC hr.symm F.body T (bareX M []) ?_
        unfold endX at h
        split at h
        · rename_i T1 M1 hx
          rw [hx]
          exact finX_ok hm hT hC hr (fun T' e => by cases e; rfl) h
        · rename_i T1 M1 hx
          rw [hx]
          exact finX_ok hm hT hC hr (fun T' e => by cases e; rfl) h
        · exact h.elim
        · exact h.elim
        · rename_i v T1 M1 hx
          rw [hx]
          cases T1 with
          | none => exact finX_ok hm hT hC hr (fun T' e => by cases e) h
          | some T1 => exact finX_ok hm hT hC hr (fun T' e => by cases e; rfl) h
        · exact h.elim
      · exact h.elim
    · exact h.elim
theorem aroundT_some {β : Type} : ∀ {ps : List Nat} {l : List AVal} {T : XT} {k : XT → Option β} {r : β}, aroundT ps l T k = some r → ∃ T', k T' = some r ∧ T'.A = (ps.zip l).foldl (fun A p => put A (some p.1) p.2) T.A
  | [], l, T, k, r, h => ⟨T, h, by simp⟩
  | p :: ps, [], T, k, r, h => ⟨T, h, by simp⟩
  | p :: ps, a :: l, T, k, r, h => by
    have h : (T.put (some p) a fun T => aroundT ps l T k) = some r := h
    obtain ⟨T1, h, hT1⟩ := XT.put_some h
    obtain ⟨T2, h, hT2⟩ := aroundT_some h
    exact ⟨T2, h, by rw [hT2, hT1]; rfl⟩
theorem roundEndX_ok {id : Nat} {d : List ADef} {j : Option AJump} {M : XM} {Q : AOut → AMem → Prop} (h : ResF P C.G (roundEndX id d j M) Q) : roundEnd id d Q j (AMem.ofX P C.G M) := by
  unfold roundEndX at h
  split at h
  · rename_i st pend N T ps a b hg hdf
    split at h
    · rename_i M1 hs
      obtain ⟨M2, hs, hM2, _⟩ := XM.set_some (P := P) (G := C.G) hs
      cases hs
      refine ⟨_, XM.get_some (P := P) (G := C.G) hg, hdf, ?_⟩
      have h : Q (.ret (.lit (.bool j.isNone))) (AMem.ofX P C.G (bareX M1 d)) := h
      rw [bareX_eq, hM2] at h
      cases j <;> exact h
    · exact h.elim
  · exact h.elim
theorem xround_ok (hm : P.follows .mixedOrders = true) (hC : CtxOk P C) {id : Nat} {args : List AVal} {M : XM} {Q : AOut → AMem → Prop} (h : ResF P C.G (xround P C id args M) Q) : ARounds P id args (AMem.ofX P C.G M) Q := by
  unfold xround at h
  split at h
  · rename_i st pend N T0 ps a b hg
    have hC' : CtxOk P { C with r := some id } := ⟨hC.call, hC.rnd, hC.dfr⟩
    split at h
    · rename_i T hc hT
      simp only [Bool.and_eq_true, List.all_eq_true] at hc
      obtain ⟨T', he, hT'⟩ := aroundT_some hT
      cases he
      refine ARounds.of hm (XM.get_some (P := P) (G := C.G) hg) (beq_iff.1 hc.1) (fun t ht => blt_iff.1 (hc.2 t ht)) (fun ra rb h => h) fun _ _ => ?_
      unfold aRound
      have hA : around { st := st, pend := pend, n := N, tmps := T0.A, ps := ps, is := isNorm P N a b } args = T.A := hT'.symm
      rw [hA, ← bareX_eq (P := P) (G := C.G)]
      refine xcode_ok (C := { C with r := some id }) hC' rfl a T (bareX M []) ?_
      unfold roundX1 at h
      split at h
      · rename_i T1 M1 hx
        rw [hx]
        split at h
        · rename_i p N' T2 ps' a' b' hg1
          split at h
          · rename_i M2 hs
            obtain ⟨M3, hs, hM3, _⟩ := XM.set_some (P := P) (G := C.G) hs
            cases hs
            refine ⟨_, XM.get_some (P := P) (G := C.G) hg1, rfl, ?_⟩
            have hM3 : AMem.ofX P C.G M2 = { AMem.ofX P C.G M1 with blks := (AMem.ofX P C.G M1).blks.set id (.loop { st := .busy, pend := p, n := N', tmps := T2.A, ps := ps', is := isNorm P N' a' b' }) } := hM3
            show awp P _ b _ _ T1.A { AMem.ofX P C.G M1 with blks := (AMem.ofX P C.G M1).blks.set id (.loop { st := .busy, pend := p, n := N', tmps := T2.A, ps := ps', is := isNorm P N' a' b' }) }
            rw [← hM3]
            refine xcode_ok (C := { C with r := some id }) hC' rfl b T1 M2 ?_
            unfold roundX2 at h
            split at h
            · rename_i hx2; rw [hx2]; exact roundEndX_ok h
            · rename_i j _ M4 hx2; rw [hx2]
              cases j <;> exact roundEndX_ok h
            · exact h.elim
            · exact h.elim
          · exact h.elim
        · exact h.elim
      · exact h.elim
      · exact h.elim
    · exact h.elim
  · exact h.elim
/-- WHAT RUNNING TELLS. -/
theorem xlvl_ok (hm : P.follows .mixedOrders = true) {tab : XTab} {G : XG} (hT : TabOk P G tab) (fuel : Nat) : ∀ k, CtxOk P ((xlvl P tab G fuel k).ctx tab G fuel)
  | 0 => ⟨fun f args M Q h => h.elim, fun id args M Q h => h.elim, fun f h => by
      have h : (tab.dfn f).isSome = true := h
      obtain ⟨D, hD⟩ := Option.isSome_iff_exists.1 h
      exact (hT.dfn f D hD).1⟩
  | k + 1 => by
    have ih := xlvl_ok hm hT fuel k
    refine ⟨fun f args M Q h => ?_, fun id args M Q h => ?_, fun f h => ?_⟩
    · exact xfn_ok (C := (xlvl P tab G fuel k).ctx tab G fuel) hm hT ih rfl h
    · exact xround_ok (C := (xlvl P tab G fuel k).ctx tab G fuel) hm ih h
    · have h : (tab.dfn f).isSome = true := h
      obtain ⟨D, hD⟩ := Option.isSome_iff_exists.1 h
      exact (hT.dfn f D hD).1
end Go.Proofs.YtjleeecaebgblaaGreatDoor.AL
