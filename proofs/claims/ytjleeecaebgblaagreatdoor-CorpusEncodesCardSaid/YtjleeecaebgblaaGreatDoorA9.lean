/- What is asked of a body is a contract of its function. -/
import Derived.Test.YtjleeecaebgblaaGreatDoorA8
import Derived.Test.YtjleeecaebgblaaGreatDoorA7
import Derived.LoopNIn
import Derived.RangeFuncLeaves
import Derived.RecoverIn
set_option linter.all false
namespace Go.Proofs.YtjleeecaebgblaaGreatDoor.AL
open Go.RowKit
section
variable {P : Program} {N n : Nat} {ro : Option Nat} {g0 : Gh} {w0 : World} {μ0 : AMem}
theorem stepsT_sound {mu : Nat → Bool} {ops : Array Oper} {K : AK} {E : AE} : ∀ (l : List Nat) (steps : List AStep) {A : ATmps} {μ : AMem} {a : Act} {w : World}, mkSteps P N mu ops l = some steps → stepsT P E steps K A μ → ASt P N g0 w0 μ0 A μ a w →
    wpOpsIn (wideF ro) n P ops (Post P N g0 w0 μ0 K E) l a w
  | [], steps, A, μ, a, w, hm, h, hst => by
    simp only [mkSteps] at hm; cases hm
    exact ⟨A, μ, h, hst⟩
  | i :: l, steps, A, μ, a, w, hm, h, hst => by
    simp only [mkSteps] at hm
    split at hm <;> cases hm
    rename_i s r hs hr
    simp only [stepsT] at h
    rw [wpOpsIn_cons]
    obtain ⟨o, _, hi, _⟩ := mkStep_spec hs
    subst hi
    refine wpOpIn_mono (fun a w hn => ?_) (stepT_sound (K' := K) hs h hst)
    obtain ⟨A', μ', hk, hst'⟩ := hn
    exact stepsT_sound l r hr hk hst'
theorem stepsT_sound' {mu : Nat → Bool} {ops : Array Oper} {K K' : AK} {E : AE} {tl : List Nat} (htl : ∀ a w, Nxt P N g0 w0 μ0 K a w → wpOpsIn (wideF ro) n P ops (Post P N g0 w0 μ0 K' E) tl a w) :
    ∀ (l : List Nat) (steps : List AStep) {A : ATmps} {μ : AMem} {a : Act} {w : World}, mkSteps P N mu ops l = some steps → stepsT P E steps K A μ → ASt P N g0 w0 μ0 A μ a w →
    wpOpsIn (wideF ro) n P ops (Post P N g0 w0 μ0 K' E) (l ++ tl) a w
  | [], steps, A, μ, a, w, hm, h, hst => by
    simp only [mkSteps] at hm; cases hm
    exact htl a w ⟨A, μ, h, hst⟩
  | i :: l, steps, A, μ, a, w, hm, h, hst => by
    simp only [mkSteps] at hm
    split at hm <;> cases hm
    rename_i s r hs hr
    simp only [stepsT] at h
    rw [List.cons_append, wpOpsIn_cons]
    obtain ⟨o, _, hi, _⟩ := mkStep_spec hs
    subst hi
    refine wpOpIn_mono (fun a w hn => ?_) (stepT_sound (K' := K') hs h hst)
    obtain ⟨A', μ', hk, hst'⟩ := hn
    exact stepsT_sound' htl l r hr hk hst'
/-- A region whose last operation defers a call. -/
theorem defer_sound {mu : Nat → Bool} {ops : Array Oper} {r : Option Nat} (hro : RoR g0 ro r) {x : Operand} {args : List Operand} (hl : lastDefer ops = some (x, args)) {l : List AStep} (hm : mkSteps P N mu ops (List.range (ops.size - 1)) = some l) {K : AK} {E : AE} {A : ATmps} {μ : AMem} {a : Act} {w : World}
    (h : stepsT P E l (fun A μ => aDefer P r (aeval A x) (args.map (aeval A)) μ fun μ' => K A μ') A μ) (hst : ASt P N g0 w0 μ0 A μ a w) :
    wpOpsIn (wideF ro) n P ops (Post P N g0 w0 μ0 K E) (List.range ops.size) a w := by
  unfold lastDefer at hl
  split at hl
  · rename_i o hback
    split at hl <;> cases hl
    rename_i args' ts hgd hdst hop
    have hpos : 0 < ops.size := by
      rw [Array.back?_eq_getElem?] at hback
      rcases Nat.eq_zero_or_pos ops.size with h0 | h0
      · rw [Array.getElem?_eq_none (by omega)] at hback; cases hback
      · exact h0
    have hrange : List.range ops.size = List.range (ops.size - 1) ++ [ops.size - 1] := by
      conv => lhs; rw [show ops.size = (ops.size - 1) + 1 by omega]
      exact List.range_succ
    rw [hrange]
    refine stepsT_sound' ?_ _ l hm h hst
    rintro a w ⟨A, μ, hk, g, hj, ht, hc, hD⟩
    unfold aDefer at hk
    split at hk
    · rename_i f fs cs hxe
      obtain ⟨⟨rfl, hcal⟩, hk⟩ := hk
      have hro' : ro = none := hro
      subst hro'
      have hx := ht.eval x
      have hcx := hc.eval x
      rw [hxe] at hx hcx
      simp only [VR] at hx
      simp only [Clean] at hcx
      obtain ⟨vs, us, hfe, h1, h2⟩ := hx
      have ho : ops[ops.size - 1]? = some o := by rw [← Array.back?_eq_getElem?]; exact hback
      have hw : Region.wanted o (yielded ops a.tmps) = true := by simp [Region.wanted, hgd]
      simp only [wpOpsIn, ho, hw, if_true]
      refine ⟨fun f _ => trivial, ?_⟩
      have he : (Oper.semAt (wideF none).round a.eval o).run P w = .ok (.defer { target := .fn (.func f) ⟨us⟩, args := ⟨vs⟩ ++ args'.map a.eval }) w := by
        show (execOp a.eval o).run P w = _
        simp [execOp, hop, resolve, Deferred.ofValue, hfe]
      rw [he, Oper.uponIn_defer, hdst]
      refine ⟨A, _, hk, g, ⟨hj.base, hj.sim.df _, hj.st.df _, ⟨hj.wf.blk, hj.wf.gl, ?_⟩, hj.nx, hj.bl, hj.bc⟩, ⟨ht.size, ht.val⟩, hc, ?_⟩
      · intro d hd
        rcases List.mem_cons.1 hd with rfl | hd
        · exact (hcx.1.append (hc.evals _)).append hcx.2
        · exact hj.wf.df d hd
      · refine ⟨_, _, _, vs ++ args'.toList.map a.eval ++ us, _, rfl, ?_, (h1.append (evals ht _)).append h2, hD⟩
        intro w'
        have e : (⟨vs⟩ ++ args'.map a.eval ++ ⟨us⟩ : Array Value) = ⟨vs ++ args'.toList.map a.eval ++ us⟩ := by apply Array.ext'; simp
        simp only [invoke]
        rw [e]
    · exact hk.elim
  · cases hl
theorem post_mono {K K' : AK} {E E' : AE} (hk : ∀ A μ, K A μ → K' A μ) (he : ∀ e A μ, E e A μ → E' e A μ) : ∀ e a w, Post P N g0 w0 μ0 K E e a w → Post P N g0 w0 μ0 K' E' e a w
  | .normal, a, w, ⟨A, μ, h, s⟩ => ⟨A, μ, hk A μ h, s⟩
  | .exit id, a, w, ⟨A, μ, h, s⟩ => ⟨A, μ, he _ A μ h, s⟩
  | .goto id, a, w, ⟨A, μ, h, s⟩ => ⟨A, μ, he _ A μ h, s⟩
  | .ret, a, w, ⟨A, μ, h, s⟩ => ⟨A, μ, he _ A μ h, s⟩
  | .panic ch, a, w, ⟨A, μ, g, v, cv, hc, h, s⟩ => ⟨A, μ, g, v, cv, hc, he _ A μ h, s⟩
theorem stepR_scope {b : Frame} {a : Act} {k : List Item} {cs : List Frame} {w : World} {c : Code} : step P (lone (b.atR a (.code (.scope c) :: k)) cs w) = .next (lone (b.atR a (.code c :: .inScope c :: k)) cs w) :=
  step_lone_go (by simp [stepG, stepG.exec, Frame.atR])
theorem stepR_inScope {b : Frame} {a : Act} {k : List Item} {cs : List Frame} {w : World} {c : Code} : step P (lone (b.atR a (.inScope c :: k)) cs w) = .next (lone (b.atR a k) cs w) :=
  step_lone_go (by simp [stepG, stepG.exec, Frame.atR])
theorem wpIn_scope {F : Fence} {c : Code} {Q : Exit → Act → World → Prop} {a : Act} {w : World} (h : c.wpIn F n P (fun e a w => match e with | .goto _ => False | e => Q e a w) a w) : (Code.scope c).wpIn F n P Q a w := by
  intro b k cs hro hb hr
  have h0 : (lone (b.atR a (.code (.scope c) :: k)) cs w).fenced P F := fenced_calm hb hr rfl
  obtain ⟨e, a₁, w₁, hq, harr⟩ := h b (.inScope c :: k) cs hro hb hr
  cases e with
  | normal => exact ⟨.normal, a₁, w₁, hq, .head h0 stepR_scope (StepsIn.trans harr (.one (fenced_calm hb hr rfl) stepR_inScope))⟩
  | exit id =>
    have hx : exitTo id (.inScope c :: k) = exitTo id k := by simp [exitTo]
    exact ⟨_, a₁, w₁, hq, fun k' hk => .head h0 stepR_scope (harr.1 k' (by rw [hx]; exact hk)),
      fun hr' hk => let ⟨k₁, h1, h2⟩ := harr.2 hr' (by rw [hx]; exact hk); ⟨k₁, h1, .head h0 stepR_scope h2⟩⟩
  | goto l => exact hq.elim
  | ret => exact ⟨_, a₁, w₁, hq, .of_steps (.one h0 stepR_scope) harr⟩
  | panic ch => exact ⟨_, a₁, w₁, hq, .of_steps (.one h0 stepR_scope) harr⟩
  | outgrown => exact ⟨_, a₁, w₁, hq, .of_steps (.one h0 stepR_scope) harr⟩
theorem cnd_spec {v : AVal} {k : Bool → Prop} (h : cnd v k) : ∃ b, v = .lit (.bool b) ∧ k b := by
  unfold cnd at h
  split at h
  · exact ⟨_, rfl, h⟩
  · exact h.elim
theorem awp_sound {mu : Nat → Nat → Bool} {r : Option Nat} (hro : RoR g0 ro r) (hm : P.follows .mixedOrders = true) : ∀ (c : Code) (ac : ACode) {K : AK} {E : AE} {A : ATmps} {μ : AMem} {a : Act} {w : World}, norm P N mu c = some ac → awp P ⟨μ0.blks.length, μ0.nx, r⟩ ac K E A μ → ASt P N g0 w0 μ0 A μ a w →
    c.wpIn (wideF ro) n P (Post P N g0 w0 μ0 K E) a w := by
  intro c
  induction c with
  | skip =>
    intro ac K E A μ a w hn h hst
    simp only [norm] at hn; cases hn
    exact wpIn_skip ⟨A, μ, h, hst⟩
  | region id ops draw =>
    intro ac K E A μ a w hn h hst
    cases draw with
    | false =>
      simp only [norm] at hn
      split at hn
      · rename_i x args hl
        obtain ⟨l, hm', rfl⟩ := Option.map_eq_some_iff.1 hn
        exact wpIn_region (defer_sound hro hl hm' h hst)
      · obtain ⟨l, hl, rfl⟩ := Option.map_eq_some_iff.1 hn
        exact wpIn_region (stepsT_sound _ l hl h hst)
    | true =>
      simp only [norm] at hn
      obtain ⟨l, hl, rfl⟩ := Option.map_eq_some_iff.1 hn
      exact draw_sound hl hm h hst
  | seq x y ihx ihy =>
    intro ac K E A μ a w hn h hst
    simp only [norm] at hn
    split at hn <;> cases hn
    rename_i ax ay hx hy
    refine wpIn_seq (wpIn_mono (ihx ax hx h hst) fun e a w hp => ?_)
    cases e with
    | normal =>
      obtain ⟨A', μ', hk, hst'⟩ := hp
      exact ihy ay hy hk hst'
    | exit id => exact hp
    | goto l => exact hp
    | ret => exact hp
    | panic ch => exact hp
    | outgrown => exact hp
  | cond c x y ihx ihy =>
    intro ac K E A μ a w hn h hst
    simp only [norm] at hn
    split at hn <;> cases hn
    rename_i ax ay hx hy
    obtain ⟨t, hc, h1, h2⟩ := cnd_spec h
    have hev : a.eval c = .bool t := by
      obtain ⟨g, _, ht, _⟩ := hst
      have := ht.eval c
      rw [hc] at this
      simpa [VR] using this
    exact wpIn_cond_split hev (fun e => ihx ax hx (h1 e) hst) (fun e => ihy ay hy (h2 e) hst)
  | block id c ih =>
    intro ac K E A μ a w hn h hst
    simp only [norm] at hn
    obtain ⟨l, hl, rfl⟩ := Option.map_eq_some_iff.1 hn
    refine wpIn_block (wpIn_mono (ih l hl h hst) fun e a w hp => ?_)
    cases e with
    | normal => exact hp
    | exit j =>
      obtain ⟨A', μ', hk, hst'⟩ := hp
      simp only at hk
      simp only [Exit.inBlock]
      split
      · rename_i e; rw [if_pos e] at hk; exact ⟨A', μ', hk, hst'⟩
      · rename_i e; rw [if_neg e] at hk; exact ⟨A', μ', hk, hst'⟩
    | goto l => exact hp
    | ret => exact hp
    | panic ch => exact hp
    | outgrown => exact hp
  | loop c ih =>
    intro ac K E A μ a w hn h hst
    simp only [norm] at hn
    obtain ⟨l, hl, rfl⟩ := Option.map_eq_some_iff.1 hn
    rcases h with ⟨k, h⟩ | ⟨α, ok, I, m, x0, hok0, hw0, hround⟩
    · refine wpIn_loop_rounds k ?_
      revert A μ a w
      induction k with
      | zero => intro A μ a w hst h; exact h.elim
      | succ k ihk =>
        intro A μ a w hst h
        rw [roundsIn_succ]
        refine wpIn_mono (ih l hl h hst) fun e a w hp => ?_
        cases e with
        | normal =>
          obtain ⟨A', μ', hk, hst'⟩ := hp
          exact ihk hst' hk
        | exit id => exact hp
        | goto l => exact hp
        | ret => exact hp
        | panic ch => exact hp
        | outgrown => exact hp
    have key : ∀ (k : Nat) (x : α) (a : Act) (w : World), m x < k → ok x → ASt P N g0 w0 μ0 (I x).1 (I x).2 a w → Code.roundsIn (wideF ro) n P c (Post P N g0 w0 μ0 K E) k a w := by
      intro k
      induction k with
      | zero => intro x a w hlt; omega
      | succ k ihk =>
        intro x a w hlt hok hs
        rw [roundsIn_succ]
        refine wpIn_mono (ih l hl (hround x hok) hs) fun e a w hp => ?_
        cases e with
        | normal =>
          obtain ⟨A', μ', ⟨y, hoky, hmy, hwk⟩, g, hj, ht, hc, hD⟩ := hp
          obtain ⟨g', hj', ht', hc', hD'⟩ := hwk.sound hj ht hD
          exact ihk y a w (by omega) hoky ⟨g', hj', ht', hc', hD'⟩
        | exit id => exact hp
        | goto l => exact hp
        | ret => exact hp
        | panic ch => exact hp
        | outgrown => exact hp
    obtain ⟨g, hj, ht, hc, hD⟩ := hst
    obtain ⟨g', hj', ht', hc', hD'⟩ := hw0.sound hj ht hD
    exact wpIn_loop_rounds (m x0 + 1) (key _ x0 a w (Nat.lt_succ_self _) hok0 ⟨g', hj', ht', hc', hD'⟩)
  | rangeFunc gx ps x y ihx ihy =>
    intro ac K E A μ a w hn h hst
    simp only [norm] at hn
    split at hn
    · split at hn <;> cases hn
      rename_i ax ay hx hy
      exact range_sound hro hx hy h hst
    · cases hn
  | exit id =>
    intro ac K E A μ a w hn h hst
    simp only [norm] at hn; cases hn
    exact wpIn_exit ⟨A, μ, h, hst⟩
  | scope c ih =>
    intro ac K E A μ a w hn h hst
    simp only [norm] at hn
    obtain ⟨l, hl, rfl⟩ := Option.map_eq_some_iff.1 hn
    refine wpIn_scope (wpIn_mono (ih l hl h hst) fun e a w hp => ?_)
    cases e with
    | normal => exact hp
    | exit j => exact hp
    | goto l =>
      obtain ⟨A', μ', hk, _⟩ := hp
      exact hk
    | ret => exact hp
    | panic ch => exact hp
    | outgrown => exact hp
  | label l =>
    intro ac K E A μ a w hn h hst
    simp only [norm] at hn; cases hn
    exact wpIn_label ⟨A, μ, h, hst⟩
  | goto l =>
    intro ac K E A μ a w hn h hst
    simp only [norm] at hn; cases hn
    exact wpIn_goto ⟨A, μ, h, hst⟩
  | ret =>
    intro ac K E A μ a w hn h hst
    simp only [norm] at hn; cases hn
    exact wpIn_ret ⟨A, μ, h, hst⟩
  | refuse => intro ac K E A μ a w hn; simp only [norm] at hn; cases hn
end
end Go.Proofs.YtjleeecaebgblaaGreatDoor.AL
namespace Go.Proofs.YtjleeecaebgblaaGreatDoor.AL
open Go.RowKit
inductive RV where
  | tmp (t : Nat)
  | cell (k : Option Nat) (t : Nat)
structure AFn where
  body : ACode
  ntmps : Nat
  results : List RV
def resRV (P : Program) : List ResultVar → Option (List RV)
  | [] => some []
  | .tmp t :: l => (resRV P l).map (.tmp t :: ·)
  | .cell a ty :: l => match tyR P ty, resRV P l with
    | some k, some r => some (.cell k a :: r)
    | _, _ => none
/-- A function, its types and its order of evaluation resolved. -/
def mkFn (P : Program) (mu : Nat → Nat → Bool) (f : FuncId) : Option AFn :=
  match P.funcs[f]? with
  | none => none
  | some fn => match fn.body with
    | none => none
    | some c => match norm P fn.ntmps mu c, resRV P fn.results.toList with
      | some body, some results => some { body, ntmps := fn.ntmps, results }
      | _, _ => none
def A0 (args : List AVal) : ATmps := fun t => args.getD t (.lit undef)
def retVs (A : ATmps) (μ : AMem) : List RV → Ds
  | [] => ⟨True, []⟩
  | .tmp t :: l => ⟨(retVs A μ l).ok, A t :: (retVs A μ l).cs⟩
  | .cell k t :: l => ⟨(loadR k (derefS μ (A t))).ok ∧ (retVs A μ l).ok, (loadR k (derefS μ (A t))).v :: (retVs A μ l).cs⟩
def oneOr : List AVal → AVal
  | [v] => v
  | vs => .tup vs
/-- A value within a memory, or less. -/
def WkV (b : Base) (v : AVal) (μ : AMem) (v' : AVal) (μ' : AMem) : Prop :=
  ∃ ρ, MW b.k b.s ρ μ μ' ∧ VW μ'.blks.length b.s μ'.nx ρ v v'
/-- A call that runs while its function is left. m: what the function was left with (a panic's value), or that it returns. In the end it returns. -/
structure ADCalls (P : Program) (f : FuncId) (args : List AVal) (m : Option AVal) (μ : AMem) (Q : AMem → Prop) : Prop where
  out : ∀ (g : Gh) (w : World) (cargs : List Value) (u : FrameMode), Sim P g w μ → WFm μ → Cleans μ.blks.length μ.nx args → VRs g args cargs →
    (match m with
      | none => u = .returning
      | some v => Clean μ.blks.length μ.nx v ∧ ∃ cv, u = .panicking [{ v := cv, recovered := false }] ∧ VR g v cv) →
    CallsDIn Fence.wide 0 P f ⟨cargs⟩ u w fun e u' w' => ∃ v μ' g', e = .returned v ∧ settle u' = .returning ∧ Q μ' ∧ St g w μ g' w' μ' ∧ Sim P g' w' μ' ∧ WFm μ' ∧ μ.nx ≤ μ'.nx ∧ μ'.df = μ.df
/-- What is asked where a function is left. -/
def leaveA (P : Program) (b : Base) (res : List RV) (Q : AOut → AMem → Prop) : List ADef → Option AVal → AK
  | [], none => fun A μ => (retVs A μ res).ok ∧ (Q (.ret (oneOr (retVs A μ res).cs)) μ ∨ ∃ v μ', WkV b (oneOr (retVs A μ res).cs) μ v μ' ∧ Q (.ret v) μ')
  | [], some v => fun A μ => Q (.panic v) μ ∨ ∃ v' μ', WkV b v μ v' μ' ∧ Q (.panic v') μ'
  | .mark id :: ds, m => fun A μ => μ.blks[id]? = some .dfr ∧ leaveA P b res Q ds m A { μ with blks := μ.blks.set id .dead }
  | .fn f args :: ds, m => fun A μ => callable P f = true ∧ ADCalls P f args m μ fun μ' => leaveA P b res Q ds none A μ'
/-- The caller's deferred calls are no matter of a function's. -/
def AMem.bare (μ : AMem) (d : List ADef) : AMem := { μ with df := d }
def retK (P : Program) (b : Base) (res : List RV) (Q : AOut → AMem → Prop) : AK := fun A μ => leaveA P b res Q μ.df none A (μ.bare [])
def retE (P : Program) (b : Base) (res : List RV) (Q : AOut → AMem → Prop) : AE := fun e A μ =>
  match e with
  | .ret => retK P b res Q A μ
  | .panic v => leaveA P b res Q μ.df (some v) A (μ.bare [])
  | _ => False
section
variable {P : Program} {N n : Nat} {g0 : Gh} {w0 : World} {μ0 : AMem}
theorem run_results {g : Gh} {w : World} {μ : AMem} {A : ATmps} {a : Act} (hs : Sim P g w μ) (ht : TR N g A a) : ∀ (l : List ResultVar) (r : List RV), resRV P l = some r → (retVs A μ r).ok →
    ∃ vs, (l.mapM (fun | .tmp t => pure (a.tmps.getD t undef) | .cell a' t => do loadVar t (← asAddr (a.tmps.getD a' undef)) : ResultVar → Sem Value)).run P w = .ok vs w ∧ VRs g (retVs A μ r).cs vs
  | [], r, h, hok => by
    simp only [resRV] at h; cases h
    exact ⟨[], rfl, by simp [retVs, VRs]⟩
  | .tmp t :: l, r, h, hok => by
    simp only [resRV] at h
    obtain ⟨r', hr, rfl⟩ := Option.map_eq_some_iff.1 h
    obtain ⟨vs, hrun, hv⟩ := run_results hs ht l r' hr hok
    refine ⟨a.tmps.getD t undef :: vs, ?_, by simp only [retVs, VRs]; exact ⟨_, _, rfl, ht.val t, hv⟩⟩
    simp only [List.mapM_cons, Sem.run_bind, Sem.run_pure, Result.andThen_ok, hrun]
  | .cell a' ty :: l, r, h, hok => by
    simp only [resRV] at h
    split at h <;> cases h
    rename_i k r' hk hr
    simp only [retVs] at hok
    obtain ⟨vs, hrun, hv⟩ := run_results hs ht l r' hr hok.2
    obtain ⟨c, hc, hcv⟩ := run_loadAt hs (loadR_ok hk hok.1) (ht.val a')
    refine ⟨c :: vs, ?_, by simp only [retVs, VRs]; exact ⟨_, _, rfl, hcv, hv⟩⟩
    obtain ⟨b, o, hp, _⟩ := deref_spec hs (derefS_ok (by cases k <;> exact hok.1.1)) (ht.val a')
    have hl : (do loadVar ty (← asAddr (a.tmps.getD a' undef)) : Sem Value).run P w = .ok c w := by
      rw [hp] at hc ⊢
      simpa [Instr.loadAt, Instr.sureAddr, asAddr] using hc
    simp only [List.mapM_cons, Sem.run_bind] at hl ⊢
    rw [hl]
    simp only [Result.andThen_ok, hrun, Sem.run_pure]
theorem Cleans_retVs {A : ATmps} {μ : AMem} (hw : WFm μ) (hc : CleanA μ.blks.length μ.nx A) : ∀ (r : List RV), Cleans μ.blks.length μ.nx (retVs A μ r).cs
  | [] => by simp [retVs, Cleans]
  | .tmp t :: l => by simp only [retVs, Cleans]; exact ⟨hc t, Cleans_retVs hw hc l⟩
  | .cell k t :: l => by simp only [retVs, Cleans]; exact ⟨Clean_loadR (Cleans_deref hw (hc t)), Cleans_retVs hw hc l⟩
theorem WkV.sound {g : Gh} {w : World} {μ μ' : AMem} {v v' : AVal} {cv : Value} {r : Option Nat} (h : WkV ⟨μ0.blks.length, μ0.nx, r⟩ v μ v' μ') (hj : J P g0 w0 μ0 g w μ) (hv : VR g v cv) :
    ∃ g', J P g0 w0 μ0 g' w μ' ∧ VR g' v' cv ∧ Clean μ'.blks.length μ'.nx v' := by
  obtain ⟨ρ, hm, hw⟩ := h
  exact ⟨_, hm.sound hj, VR_W hm.id _ _ _ hw hv, Clean_W hm.s hm.top _ _ hw⟩
theorem oneOr_VR {g : Gh} {cs : List AVal} {vs : List Value} (h : VRs g cs vs) : VR g (oneOr cs) (if h : (⟨vs⟩ : Array Value).size = 1 then (⟨vs⟩ : Array Value)[0] else .tuple ⟨vs⟩) := by
  unfold oneOr
  split
  · simp only [VRs] at h
    obtain ⟨v, vs', rfl, hv, rfl⟩ := h
    simpa using hv
  · rename_i hne
    have hl := h.length
    have hn : ¬ (⟨vs⟩ : Array Value).size = 1 := by
      intro h1
      simp at h1
      rw [h1] at hl
      match cs, hl, hne with
      | [c], _, hne => exact hne c rfl
    rw [dif_neg hn]
    simp only [VR]
    exact ⟨vs, rfl, h⟩
theorem Clean_oneOr {k s : Nat} {cs : List AVal} (h : Cleans k s cs) : Clean k s (oneOr cs) := by
  unfold oneOr
  split
  · simp only [Cleans] at h; exact h.1
  · simpa [Clean] using h
theorem Sim.bare {g : Gh} {w : World} {μ : AMem} (h : Sim P g w μ) (d : List ADef) : Sim P g w (μ.bare d) :=
  ⟨h.lt, h.inj, h.cpl, h.blk, h.imm, h.sep, h.tlt, h.tk, h.tsep, h.tinj, h.nd, h.ll, h.tf, h.gl⟩
theorem St.bare {g : Gh} {w : World} {μ : AMem} {g' : Gh} {w' : World} {μ' : AMem} {d d' : List ADef} (h : St g w (μ.bare d) g' w' μ') : St g w μ g' w' (μ'.bare d') :=
  ⟨h.le, h.agree, h.len, h.hn, ⟨h.frame.os, h.frame.tape, h.frame.output, h.frame.size, h.frame.block⟩, h.own⟩
theorem J.bare {g : Gh} {w : World} {μ : AMem} (h : J P g0 w0 μ0 g w μ) : J P g0 w0 μ0 g w (μ.bare []) :=
  ⟨h.base, h.sim.bare _, h.st.df [], ⟨h.wf.blk, h.wf.gl, fun d hd => (List.not_mem_nil hd).elim⟩, h.nx, h.bl, h.bc⟩
theorem run_resultsA {fn : Func} {a : Act} {g : Gh} {w : World} {μ : AMem} {A : ATmps} (hs : Sim P g w μ) (ht : TR N g A a) {r : List RV} (hr : resRV P fn.results.toList = some r) (hok : (retVs A μ r).ok) :
    ∃ v, (Go.results fn a.tmps).run P w = .ok v w ∧ VR g (oneOr (retVs A μ r).cs) v := by
  obtain ⟨vs, hrun, hvs⟩ := run_results hs ht fn.results.toList r hr hok
  refine ⟨_, ?_, oneOr_VR hvs⟩
  unfold Go.results
  simp only [Sem.run_bind]
  rw [Array.mapM_eq_mapM_toList, Sem.run_map]
  erw [hrun]
  rfl
/-- LEAVING. -/
theorem leave_sound {fn : Func} {a : Act} {res : List RV} (hres : resRV P fn.results.toList = some res) {Q : AOut → AMem → Prop} {R : Ending → World → Prop} {A : ATmps}
    (hR : ∀ o μ' g' w' e, Q o μ' → J P g0 w0 μ0 g' w' μ' → OutR g' o e → Clean μ'.blks.length μ'.nx o.val → R e w') {r : Option Nat} :
    ∀ (ds : List ADef) (m : Option AVal) (μ : AMem) (g : Gh) (w : World) (u : FrameMode) (cds : List Deferred), leaveA P ⟨μ0.blks.length, μ0.nx, r⟩ res Q ds m A μ → J P g0 w0 μ0 g w μ → TR N g A a → CleanA μ.blks.length μ.nx A → DfR P g ds cds → (∀ d, d ∈ ds → CleanD μ.blks.length μ.nx d) →
      (match m with
        | none => u = .returning
        | some v => Clean μ.blks.length μ.nx v ∧ ∃ cv, u = .panicking [{ v := cv, recovered := false }] ∧ VR g v cv) → LeavesInM Fence.wide 0 P fn a.tmps R cds u w := by
  intro ds
  induction ds with
  | nil =>
    intro m μ g w u cds h hj ht hc hD hcd hm
    have hD : cds = [] := hD
    subst hD
    cases m with
    | none =>
      have hm : u = .returning := hm
      subst hm
      obtain ⟨hok, hor⟩ := h
      obtain ⟨cv, hrun, hv⟩ := run_resultsA hj.sim ht hres hok
      refine ⟨cv, hrun, ?_⟩
      rcases hor with hq | ⟨v, μ', hwk, hq⟩
      · exact hR _ _ _ _ _ hq hj hv (Clean_oneOr (Cleans_retVs hj.wf hc res))
      · obtain ⟨g', hj', hv', hcl'⟩ := hwk.sound hj hv
        exact hR _ _ _ _ _ hq hj' hv' hcl'
    | some v =>
      obtain ⟨hcv, cv, rfl, hv⟩ := hm
      rcases h with hq | ⟨v', μ', hwk, hq⟩
      · exact hR _ _ _ _ _ hq hj ⟨cv, rfl, hv⟩ hcv
      · obtain ⟨g', hj', hv', hcl'⟩ := hwk.sound hj hv
        exact hR _ _ _ _ _ hq hj' ⟨cv, rfl, hv'⟩ hcl'
  | cons d ds ih =>
    intro m μ g w u cds h hj ht hc hD hcd hm
    have hu : u ≠ .run := by
      cases m with
      | none => have hm : u = .returning := hm; rw [hm]; simp
      | some v => obtain ⟨_, cv, rfl, _⟩ := hm; simp
    have hcd' : ∀ x, x ∈ ds → CleanD μ.blks.length μ.nx x := fun x hx => hcd x (List.mem_cons_of_mem _ hx)
    cases d with
    | mark id =>
      obtain ⟨b, args, ds', rfl, hb, hD'⟩ := hD
      obtain ⟨hk, hrest⟩ := h
      have hbr := hj.sim.blk id b _ hb hk
      simp only [BR] at hbr
      have hw := write_dead hj.sim hb hk rfl (.deferred none)
      have hj' := hj.step hw.1 hw.2 (hj.wf.set id (b := .dead) trivial) (Nat.le_refl _)
      refine ⟨hu, .inl ⟨b, _, rfl, run_takeDeferred hbr, ?_⟩⟩
      refine ih m _ g _ u ds' hrest hj' ht (by simpa using hc) hD' (by simpa using hcd') ?_
      cases m with
      | none => exact hm
      | some v => obtain ⟨h1, h2⟩ := hm; exact ⟨by simpa using h1, h2⟩
    | fn f args =>
      obtain ⟨fv, cap, vs, cs, ds', rfl, hinv, hv, hD'⟩ := hD
      obtain ⟨hcal, hcall⟩ := h
      refine ⟨hu, .inr ⟨fun hh => by simp [Fence.wide] at hh, fv, cap, f, ⟨cs⟩, rfl, ?_, fun _ _ => trivial, ?_⟩⟩
      · rw [hinv, run_callFunc hcal]
      · refine (hcall.out g w cs u hj.sim hj.wf (hcd (.fn f args) List.mem_cons_self) hv hm).mono ?_
        rintro e u' w' ⟨v, μ', g', rfl, hset, hq, hst, hsim, hwf, hnx, hdf⟩
        show LeavesInM Fence.wide 0 P fn a.tmps R ds' (settle u') w'
        rw [hset]
        exact ih none μ' g' w' .returning ds' hq (hj.step hsim hst hwf hnx) (ht.mono hst.le) (hc.mono hst.len hnx) (DfR.mono hst.le _ _ hD') (fun x hx => CleanD.mono hst.len hnx (hcd' x hx)) rfl
/-- The state in which a function begins. -/
theorem ASt.enter {fn : Nat} {args : List AVal} {cargs : List Value} {g : Gh} {w : World} {μ : AMem} (hs : Sim P g w μ) (hw : WFm μ) (hcl : Cleans μ.blks.length μ.nx args) (hv : VRs g args cargs) (hlen : cargs.length ≤ fn) :
    ASt P fn g w (μ.bare []) (A0 args) (μ.bare []) { tmps := (⟨cargs⟩ : Array Value) ++ Array.replicate (fn - (⟨cargs⟩ : Array Value).size) undef, defers := [] } w := by
  have hcl' := hv.length
  refine ⟨g, ⟨hs.tf, hs.bare [], .refl _ _ _, ⟨hw.blk, hw.gl, fun d hd => (List.not_mem_nil hd).elim⟩, Nat.le_refl _, fun i b e => (hs.lt i b e).1, fun i c e => by obtain ⟨b, hb⟩ := hs.cpl i c e; exact (hs.lt i b hb).1⟩, ⟨by simp; omega, fun t => ?_⟩, fun t => ?_, rfl⟩
  · unfold A0
    simp only [Array.getD_eq_getD_getElem?, Array.getElem?_append, List.getD_eq_getElem?_getD]
    by_cases ht : t < cargs.length
    · have ht' : t < args.length := by omega
      obtain ⟨v, e, r⟩ := hv.get t args[t] (List.getElem?_eq_getElem ht')
      simp only [List.size_toArray, ht, if_true, List.getElem?_toArray, e, Option.getD_some, List.getElem?_eq_getElem ht']
      exact r
    · have ht' : ¬ t < args.length := by omega
      simp only [List.size_toArray, ht, if_false, List.getElem?_eq_none (Nat.le_of_not_lt ht'), Option.getD_none, VR]
      rw [Array.getElem?_replicate]
      split <;> rfl
  · unfold A0
    rw [List.getD_eq_getElem?_getD]
    cases he : args[t]? with
    | none => simp [Clean]
    | some v => exact hcl.get he
/-- A CONTRACT OUT OF WHAT IS ASKED OF THE BODY. -/
theorem ACalls.of (hm : P.follows .mixedOrders = true) {f : FuncId} {F : AFn} {mu : Nat → Nat → Bool} (hF : mkFn P mu f = some F) {args : List AVal} {μ : AMem} {Q : AOut → AMem → Prop} (hl : args.length ≤ F.ntmps)
    (h : WFm μ → Cleans μ.blks.length μ.nx args → awp P ⟨μ.blks.length, μ.nx, none⟩ F.body (retK P ⟨μ.blks.length, μ.nx, none⟩ F.results fun o μ' => Q o (μ'.bare μ.df)) (retE P ⟨μ.blks.length, μ.nx, none⟩ F.results fun o μ' => Q o (μ'.bare μ.df)) (A0 args) (μ.bare [])) : ACalls P f args μ Q := by
  unfold mkFn at hF
  split at hF
  · cases hF
  rename_i fn hf
  split at hF
  · cases hF
  rename_i c hb
  split at hF <;> cases hF
  rename_i body results hn hres
  refine ⟨fun g w cargs hs hw hcl hv => ?_⟩
  have hcl' := hv.length
  have hlen : cargs.length ≤ fn.ntmps := by simpa [hcl'] using hl
  refine (callsIn_wide (n := 0)).1 (callsIn_of_wp_marks hf hb trivial ?_ rfl)
  have hst := ASt.enter hs hw hcl hv hlen
  have hwp := awp_sound (n := 0) (ro := none) (μ0 := μ.bare []) (r := none) rfl hm c body hn (h hw hcl) hst
  refine wpIn_mono (F := Fence.wide) hwp fun e a w' hp => ?_
  have wfb : ∀ {g' : Gh} {w' : World} {μ' : AMem}, J P g w (μ.bare []) g' w' μ' → WFm (μ'.bare μ.df) := fun hj => ⟨hj.wf.blk, hj.wf.gl, fun d hd => CleanD.mono hj.st.len hj.nx (hw.df d hd)⟩
  have hR : ∀ (o : AOut) (μ' : AMem) (g' : Gh) (w' : World) (e : Ending), Q o (μ'.bare μ.df) → J P g w (μ.bare []) g' w' μ' → OutR g' o e → Clean μ'.blks.length μ'.nx o.val →
      ∃ o μ' g', Q o μ' ∧ St g w μ g' w' μ' ∧ Sim P g' w' μ' ∧ OutR g' o e ∧ WFm μ' ∧ Clean μ'.blks.length μ'.nx o.val ∧ μ.nx ≤ μ'.nx ∧ μ'.df = μ.df :=
    fun o μ' g' w' e hq hj ho hcl => ⟨o, μ'.bare μ.df, g', hq, hj.st.bare, hj.sim.bare _, ho, wfb hj, hcl, hj.nx, rfl⟩
  cases e with
  | normal =>
    obtain ⟨A, μ1, hk, g1, hj, ht, hc, hD⟩ := hp
    exact leave_sound hres hR μ1.df none (μ1.bare []) g1 w' .returning a.defers hk hj.bare ht hc hD hj.wf.df rfl
  | ret =>
    obtain ⟨A, μ1, hk, g1, hj, ht, hc, hD⟩ := hp
    exact leave_sound hres hR μ1.df none (μ1.bare []) g1 w' .returning a.defers hk hj.bare ht hc hD hj.wf.df rfl
  | exit id => obtain ⟨A, μ1, hk, hst⟩ := hp; exact hk.elim
  | goto l => obtain ⟨A, μ1, hk, hst⟩ := hp; exact hk.elim
  | panic ch =>
    obtain ⟨A, μ1, g1, v, cv, rfl, hk, hj, ht, hc, hD, hv, hcv⟩ := hp
    exact leave_sound hres hR μ1.df (some v) (μ1.bare []) g1 w' _ a.defers hk hj.bare ht hc hD hj.wf.df ⟨hcv, cv, rfl, hv⟩
  | outgrown => exact hp.elim
/-! ### functions that are deferred, and recover -/
structure ADFn where
  d1 : Nat
  d2 : Nat
  body : ACode
  ntmps : Nat
def mkDFn (P : Program) (mu : Nat → Nat → Bool) (f : FuncId) : Option ADFn :=
  match P.funcs[f]? with
  | none => none
  | some fn => match fn.body with
    | some (.seq (.region _ ⟨[o0, o1]⟩ false) rest) =>
      match o0.op, o0.guard, o0.dst, o1.op, o1.guard, o1.dst, norm P fn.ntmps mu rest with
      | .call { callee := .builtin .recover, args := ⟨[]⟩, .. }, none, some d1, .assign (.tmp d1'), none, some d2, some body =>
        if d1 < fn.ntmps ∧ d2 < fn.ntmps ∧ d1 = d1' ∧ fn.results.toList = [] then some { d1, d2, body, ntmps := fn.ntmps } else none
      | _, _, _, _, _, _, _ => none
    | _ => none
/-- What recover hands back. -/
def recV : Option AVal → AVal
  | none => .lit .nilIface
  | some v => v
def dK (d : List ADef) (Q : AMem → Prop) : AK := fun _ μ' => μ'.df = [] ∧ Q (μ'.bare d)
def dE (d : List ADef) (Q : AMem → Prop) : AE := fun e A μ' =>
  match e with
  | .ret => dK d Q A μ'
  | _ => False
theorem ADCalls.of (hm : P.follows .mixedOrders = true) {f : FuncId} {D : ADFn} {mu : Nat → Nat → Bool} (hF : mkDFn P mu f = some D) {args : List AVal} {m : Option AVal} {μ : AMem} {Q : AMem → Prop} (hl : args.length ≤ D.ntmps)
    (h : WFm μ → Cleans μ.blks.length μ.nx args → awp P ⟨μ.blks.length, μ.nx, none⟩ D.body (dK μ.df Q) (dE μ.df Q) (put (put (A0 args) (some D.d1) (recV m)) (some D.d2) (recV m)) (μ.bare [])) : ADCalls P f args m μ Q := by
  unfold mkDFn at hF
  split at hF
  · cases hF
  rename_i fn hf
  split at hF <;> try (cases hF; done)
  rename_i id o0 o1 rest hb
  split at hF <;> try (cases hF; done)
  rename_i ats d1 d1' d2 body h1 h2 h3 h4 h5 h6 hn
  split at hF <;> cases hF
  rename_i hcond
  obtain ⟨hd1, hd2, rfl, hnores⟩ := hcond
  refine ⟨fun g w cargs u hs hw hcl hv hmode => ?_⟩
  have hcl' := hv.length
  have hlen : cargs.length ≤ fn.ntmps := by simpa [hcl'] using hl
  refine callsDIn_of_wpSIn hf hb trivial fun c₀ cs hu => wpSIn_seq (wpSIn_region ?_)
  obtain ⟨g1, hj1, ht1, hc1, hD1⟩ := ASt.enter (P := P) hs hw hcl hv hlen
  generalize ha : ({ tmps := (⟨cargs⟩ : Array Value) ++ Array.replicate (fn.ntmps - (⟨cargs⟩ : Array Value).size) undef, defers := [] } : Act) = a at *
  have hdf : a.defers = [] := by rw [← ha]
  have e0 : (execOp a.eval o0).run P w = .ok .recover w := by
    simp [execOp, h1, resolve, Deferred.ofValue, invoke, builtin]
  obtain ⟨cv, u', hrec, hset, hvr, hcl1⟩ : ∃ cv u', (match recoverD (c₀ :: cs) with | some (v, cs') => v = cv ∧ cs' = { c₀ with mode := u' } :: cs | none => cv = .nilIface ∧ ({ c₀ with mode := u' } : Frame) = c₀) ∧ settle u' = .returning ∧ VR g1 (recV m) cv ∧ Clean μ.blks.length μ.nx (recV m) := by
    cases m with
    | none =>
      have hmode : u = .returning := hmode
      subst hmode
      refine ⟨.nilIface, .returning, ?_, rfl, by simp [recV, VR], by simp [recV, Clean]⟩
      have hrn : recoverD (c₀ :: cs) = none := by simp [recoverD, hu]
      rw [hrn]
      exact ⟨rfl, by rw [← hu]⟩
    | some v =>
      obtain ⟨hcv, cv, rfl, hvv⟩ := hmode
      refine ⟨cv, .panicking [{ v := cv, recovered := true }], ?_, rfl, VR.mono hj1.st.le _ _ hvv, hcv⟩
      simp [recoverD, hu]
  have hw0 : Region.wanted o0 (yielded #[o0, o1] a.tmps) = true := by simp [Region.wanted, h2]
  have e1 : ∀ a' : Act, (execOp a'.eval o1).run P w = .ok (.value (a'.tmps.getD d1 undef)) w := by
    intro a'; simp [execOp, h4, Act.eval, Sem.run]
  have hw1 : ∀ t, Region.wanted o1 (yielded #[o0, o1] t) = true := by intro t; simp [Region.wanted, h5]
  have hdst1 : dstOk fn.ntmps (some d1) = true := by simpa [dstOk] using hd1
  have hdst2 : dstOk fn.ntmps (some d2) = true := by simpa [dstOk] using hd2
  have hg : ((a.put (some d1) cv).tmps.getD d1 undef) = cv := by
    have : d1 < a.tmps.size := by rw [ht1.size]; exact hd1
    simp [Act.put, Array.getD_eq_getD_getElem?, this]
  have hst2 : ASt P fn.ntmps g w (μ.bare []) (put (put (A0 args) (some d1) (recV m)) (some d2) (recV m)) (μ.bare []) ((a.put (some d1) cv).put (some d2) cv) w :=
    ⟨g1, hj1, (ht1.put hdst1 hvr).put hdst2 hvr, (hc1.put _ hcl1).put _ hcl1, by simpa [put_defers] using hD1⟩
  have hwp := awp_sound (n := 0) (ro := none) (μ0 := μ.bare []) (r := none) rfl hm rest body hn (h hw hcl) hst2
  have wfb : ∀ {g' : Gh} {w' : World} {μ' : AMem}, J P g w (μ.bare []) g' w' μ' → WFm (μ'.bare μ.df) := fun hj => ⟨hj.wf.blk, hj.wf.gl, fun d hd => CleanD.mono hj.st.len hj.nx (hw.df d hd)⟩
  have key : rest.wpSIn Fence.wide 0 P (bodyPostS P fn c₀ cs fun e u' w' => ∃ v μ' g', e = .returned v ∧ settle u' = .returning ∧ Q μ' ∧ St g w μ g' w' μ' ∧ Sim P g' w' μ' ∧ WFm μ' ∧ μ.nx ≤ μ'.nx ∧ μ'.df = μ.df)
      ((a.put (some d1) cv).put (some d2) cv) ({ c₀ with mode := u' } :: cs) w := by
    refine wpSIn_of_wpIn rfl (wpIn_mono (F := Fence.wide) hwp fun e a w' hp => ?_)
    have fin : ∀ (A : ATmps) (μ1 : AMem), dK μ.df Q A μ1 → ASt P fn.ntmps g w (μ.bare []) A μ1 a w' → bodyPostS P fn c₀ cs (fun e u' w' => ∃ v μ' g', e = .returned v ∧ settle u' = .returning ∧ Q μ' ∧ St g w μ g' w' μ' ∧ Sim P g' w' μ' ∧ WFm μ' ∧ μ.nx ≤ μ'.nx ∧ μ'.df = μ.df) .ret a ({ c₀ with mode := u' } :: cs) w' := by
      rintro A μ1 ⟨hdf1, hq⟩ ⟨g2, hj2, ht2, hc2, hD2⟩
      have hD2 : a.defers = [] := by rw [hdf1] at hD2; exact hD2
      obtain ⟨cv', hrun, _⟩ := run_resultsA (fn := fn) (r := []) hj2.sim ht2 (by rw [hnores]; rfl) trivial
      exact ⟨hD2, u', rfl, cv', hrun, cv', _, g2, rfl, hset, hq, hj2.st.bare, hj2.sim.bare _, wfb hj2, hj2.nx, rfl⟩
    cases e with
    | normal => obtain ⟨A, μ1, hk, hst⟩ := hp; exact fin A μ1 hk hst
    | ret => obtain ⟨A, μ1, hk, hst⟩ := hp; exact fin A μ1 hk hst
    | exit id => obtain ⟨A, μ1, hk, hst⟩ := hp; exact hk.elim
    | goto l => obtain ⟨A, μ1, hk, hst⟩ := hp; exact hk.elim
    | panic ch => obtain ⟨A, μ1, g1, v, cv, _, hk, _⟩ := hp; exact hk.elim
    | outgrown => exact hp.elim
  show wpOpsSIn Fence.wide 0 P #[o0, o1] _ [0, 1] a (c₀ :: cs) w
  have after : ∀ cs', cs' = { c₀ with mode := u' } :: cs → wpOpsSIn Fence.wide 0 P #[o0, o1] (Exit.thenS (rest.wpSIn Fence.wide 0 P (bodyPostS P fn c₀ cs fun e u' w' => ∃ v μ' g', e = .returned v ∧ settle u' = .returning ∧ Q μ' ∧ St g w μ g' w' μ' ∧ Sim P g' w' μ' ∧ WFm μ' ∧ μ.nx ≤ μ'.nx ∧ μ'.df = μ.df)) (bodyPostS P fn c₀ cs fun e u' w' => ∃ v μ' g', e = .returned v ∧ settle u' = .returning ∧ Q μ' ∧ St g w μ g' w' μ' ∧ Sim P g' w' μ' ∧ WFm μ' ∧ μ.nx ≤ μ'.nx ∧ μ'.df = μ.df)) [1] (a.put o0.dst cv) cs' w := by
    rintro cs' rfl
    simp only [wpOpsSIn, List.getElem?_toArray, List.getElem?_cons_succ, List.getElem?_cons_zero, hw1, if_true, e1]
    refine ⟨fun _ _ => trivial, ?_⟩
    rw [h3, hg, h6]
    exact key
  unfold wpOpsSIn
  simp only [List.getElem?_toArray, List.getElem?_cons_zero, hw0, if_true, e0]
  refine ⟨fun _ _ => trivial, ?_⟩
  cases hr : recoverD (c₀ :: cs) with
  | none =>
    rw [hr] at hrec
    obtain ⟨rfl, hc₀⟩ := hrec
    exact after _ (by rw [hc₀])
  | some p =>
    obtain ⟨v, cs'⟩ := p
    rw [hr] at hrec
    obtain ⟨rfl, rfl⟩ := hrec
    exact after _ rfl
end
end Go.Proofs.YtjleeecaebgblaaGreatDoor.AL
namespace Go.Proofs.YtjleeecaebgblaaGreatDoor.AL
open Go.RowKit
/-- The temporaries with which a round begins. -/
def around (L : ALoop) (args : List AVal) : ATmps := (L.ps.zip args).foldl (fun A p => put A (some p.1) p.2) L.tmps
def roundEnd (id : Nat) (d : List ADef) (Q : AOut → AMem → Prop) (j : Option AJump) (μ : AMem) : Prop :=
  ∃ L, μ.blks[id]? = some (.loop L) ∧ μ.df = [] ∧ Q (.ret (.lit (.bool j.isNone))) (AMem.bare { μ with blks := μ.blks.set id (.loop { L with st := if j.isNone then .ready else .done, pend := j }) } d)
def roundE (id : Nat) (d : List ADef) (Q : AOut → AMem → Prop) : AE := fun e A μ =>
  match e with
  | .ret => roundEnd id d Q (some .ret) μ
  | .exit j => roundEnd id d Q (some (.exit j)) μ
  | .goto l => roundEnd id d Q (some (.goto l)) μ
  | .panic _ => False
/-- What is asked of a round. -/
def aRound (P : Program) (b : Base) (id : Nat) (d : List ADef) (Q : AOut → AMem → Prop) (x y : ACode) : AK := 
  awp P b x (fun A μ1 => ∃ L1, μ1.blks[id]? = some (.loop L1) ∧ L1.st = .ready ∧ awp P b y (fun _ μ => roundEnd id d Q none μ) (roundE id d Q) A { μ1 with blks := μ1.blks.set id (.loop { L1 with st := .busy }) }) (fun _ _ _ => False)
section
variable {P : Program}
theorem TR_around {N : Nat} {g : Gh} : ∀ {ps : List Nat} {args : List AVal} {cargs : List Value} {A : ATmps} {a : Act}, (∀ t ∈ ps, t < N) → VRs g args cargs → TR N g A a →
    TR N g ((ps.zip args).foldl (fun A p => put A (some p.1) p.2) A) { a with tmps := (ps.zip cargs).foldl (fun tmps p => tmps.setIfInBounds p.1 p.2) a.tmps }
  | [], args, cargs, A, a, _, _, ht => by simpa using ht
  | p :: ps, [], cargs, A, a, _, hv, ht => by simp only [VRs] at hv; subst hv; simpa using ht
  | p :: ps, x :: args, cargs, A, a, hp, hv, ht => by
    simp only [VRs] at hv
    obtain ⟨v, vs, rfl, h1, h2⟩ := hv
    simp only [List.zip_cons_cons, List.foldl_cons]
    have ht' := ht.put (d := some p) (by simpa [dstOk] using hp p (by simp)) h1
    exact TR_around (a := a.put (some p) v) (fun t h => hp t (by simp [h])) h2 ht'
theorem CleanA_around {k s : Nat} : ∀ {ps : List Nat} {args : List AVal} {A : ATmps}, Cleans k s args → CleanA k s A → CleanA k s ((ps.zip args).foldl (fun A p => put A (some p.1) p.2) A)
  | [], args, A, _, h => by simpa using h
  | p :: ps, [], A, _, h => by simpa using h
  | p :: ps, x :: args, A, hc, h => by
    simp only [Cleans] at hc
    simp only [List.zip_cons_cons, List.foldl_cons]
    exact CleanA_around hc.2 (h.put (some p) hc.1)
/-- A ROUND's CONTRACT OUT OF WHAT IS ASKED OF IT. -/
theorem ARounds.of (hm : P.follows .mixedOrders = true) {id : Nat} {L : ALoop} {args : List AVal} {μ : AMem} {Q : AOut → AMem → Prop} (hL : μ.blks[id]? = some (.loop L)) (hlen : args.length = L.ps.length) (hps : ∀ t ∈ L.ps, t < L.n) {x y : ACode}
    (his : ∀ ra rb, L.is ra rb → isNorm P L.n x y ra rb)
    (h : WFm μ → Cleans μ.blks.length μ.nx args → aRound P ⟨μ.blks.length, μ.nx, some id⟩ id μ.df Q x y (around L args) (μ.bare [])) : ARounds P id args μ Q := by
  refine ⟨fun g w cargs b hs hw hc hv hb => ?_⟩
  have hbr := hs.blk id b _ hb hL
  simp only [BR] at hbr
  obtain ⟨fn, tmps, asgn, body, ds, hh, hvr, hi⟩ := hbr
  obtain ⟨mu, hx, hy⟩ := his _ _ hi
  have hsz : (⟨cargs⟩ : Array Value).size = (⟨L.ps⟩ : Array Nat).size := by have := hv.length; simp; omega
  refine ⟨fn, _, asgn, body, run_yield hh hsz, fun n => roundIn_of_wpIn trivial ?_⟩
  have hst : ASt P L.n g w (μ.bare []) (around L args) (μ.bare []) { tmps := (L.ps.zip cargs).foldl (fun tmps p => tmps.setIfInBounds p.1 p.2) tmps, defers := [] } w := by
    have ht0 : TR L.n g L.tmps { tmps := tmps, defers := [] } := ⟨hvr.1, hvr.2⟩
    have hcl0 : CleanA μ.blks.length μ.nx L.tmps := hw.get hL
    exact ⟨g, ⟨hs.tf, hs.bare [], .refl _ _ _, ⟨hw.blk, hw.gl, fun d hd => (List.not_mem_nil hd).elim⟩, Nat.le_refl _, fun i b e => (hs.lt i b e).1, fun i c e => by obtain ⟨b, hb⟩ := hs.cpl i c e; exact (hs.lt i b hb).1⟩,
      TR_around hps hv ht0, CleanA_around hc hcl0, rfl⟩
  have hstart : ((⟨L.ps⟩ : Array Nat).zip (⟨cargs⟩ : Array Value)).foldl (fun tmps (p : Nat × Value) => tmps.setIfInBounds p.1 p.2) tmps = (L.ps.zip cargs).foldl (fun tmps p => tmps.setIfInBounds p.1 p.2) tmps := by
    simp
  have wfb : ∀ {g' : Gh} {w' : World} {μ' : AMem}, J P g w (μ.bare []) g' w' μ' → WFm (μ'.bare μ.df) := fun hj => ⟨hj.wf.blk, hj.wf.gl, fun d hd => CleanD.mono hj.st.len hj.nx (hw.df d hd)⟩
  have hro : RoR g (some b) (some id) := ⟨b, rfl, hb⟩
  have hwp := awp_sound (n := n) (ro := some b) (μ0 := μ.bare []) (r := some id) hro hm asgn x hx (h hw hc) hst
  have fin : ∀ (j : Option AJump) (A : ATmps) (μ2 : AMem) (a : Act) (w2 : World), roundEnd id μ.df Q j μ2 → ASt P L.n g w (μ.bare []) A μ2 a w2 →
      ∃ v w', (Instr.endRound b (j.map AJump.code)).run P w2 = .ok v w' ∧ ∃ o μ' g', Q o μ' ∧ St g w μ g' w' μ' ∧ Sim P g' w' μ' ∧ OutR g' o (.returned v) ∧ WFm μ' ∧ Clean μ'.blks.length μ'.nx o.val ∧ μ.nx ≤ μ'.nx ∧ μ'.df = μ.df := by
    intro j A μ2 a w2 hk hst
    obtain ⟨g2, hj, ht, hc2, hD⟩ := hst
    obtain ⟨L2, hL2, hdf, hq⟩ := hk
    have hb2 := hj.st.le.φ _ _ hb
    obtain ⟨rec, hh2, _, _, hwr⟩ := write_loop hj.sim hb2 hL2
    have hend := run_endRound (P := P) (j.map AJump.code) hh2
    have hw2 := hwr (if j.isNone then .ready else .done) j
    have hj' := hj.step hw2.1 hw2.2 (hj.wf.set id (b := .loop { L2 with st := if j.isNone then .ready else .done, pend := j }) (by have := hj.wf.get hL2; exact this)) (Nat.le_refl _)
    refine ⟨_, _, hend, _, _, g2, hq, ?_, ?_, ?_, wfb hj', ?_, hj'.nx, rfl⟩
    · have := hj'.st
      simp only [Option.isNone_map]
      exact this.bare
    · simp only [Option.isNone_map]
      exact hj'.sim.bare _
    · simp only [Option.isNone_map, OutR, VR]
    · simp [AOut.val, Clean]
  show Code.wpIn (wideF (some b)) n P asgn _ _ w
  have hgoal : ({ tmps := ((⟨L.ps⟩ : Array Nat).zip (⟨cargs⟩ : Array Value)).foldl (fun tmps (p : Nat × Value) => tmps.setIfInBounds p.1 p.2) tmps, defers := [] } : Act) = { tmps := (L.ps.zip cargs).foldl (fun tmps p => tmps.setIfInBounds p.1 p.2) tmps, defers := [] } := by rw [hstart]
  erw [hgoal]
  refine wpIn_mono hwp fun e a w1 hp => ?_
  cases e with
  | normal =>
    obtain ⟨A1, μ1, ⟨L1, hL1, hready, hbody⟩, g1, hj1, ht1, hc1, hD1⟩ := hp
    have hb1 := hj1.st.le.φ _ _ hb
    obtain ⟨rec, hh1, hs1, hp1, hwr⟩ := write_loop hj1.sim hb1 hL1
    have hbeg := run_beginRound (P := P) hh1 (by rw [hs1]; exact hready)
    have hw1 := hwr .busy L1.pend
    rw [← hp1] at hw1
    have hj2 := hj1.step hw1.1 hw1.2 (hj1.wf.set id (b := .loop { L1 with st := .busy }) (by have := hj1.wf.get hL1; exact this)) (Nat.le_refl _)
    refine ⟨_, hbeg, ?_⟩
    have h2 := awp_sound (n := n) (ro := some b) (μ0 := μ.bare []) (r := some id) hro hm body y hy hbody ⟨g1, hj2, ht1, by simpa using hc1, hD1⟩
    refine wpIn_mono h2 fun e a w2 hp => ?_
    cases e with
    | normal => obtain ⟨A2, μ2, hk, hst2⟩ := hp; exact fin none A2 μ2 a w2 hk hst2
    | ret => obtain ⟨A2, μ2, hk, hst2⟩ := hp; exact fin (some .ret) A2 μ2 a w2 hk hst2
    | exit j => obtain ⟨A2, μ2, hk, hst2⟩ := hp; exact fin (some (.exit j)) A2 μ2 a w2 hk hst2
    | goto l => obtain ⟨A2, μ2, hk, hst2⟩ := hp; exact fin (some (.goto l)) A2 μ2 a w2 hk hst2
    | panic ch => obtain ⟨A2, μ2, g2, v, cv, _, hk, _⟩ := hp; exact hk.elim
    | outgrown => exact hp.elim
  | exit j => obtain ⟨A2, μ2, hk, _⟩ := hp; exact hk.elim
  | goto l => obtain ⟨A2, μ2, hk, _⟩ := hp; exact hk.elim
  | ret => obtain ⟨A2, μ2, hk, _⟩ := hp; exact hk.elim
  | panic ch => obtain ⟨A2, μ2, g2, v, cv, _, hk, _⟩ := hp; exact hk.elim
  | outgrown => exact hp.elim
end
end Go.Proofs.YtjleeecaebgblaaGreatDoor.AL
namespace Go.Proofs.YtjleeecaebgblaaGreatDoor.AL
open Go.RowKit
def AMem.none (gl : Nat → Option (List AVal)) : AMem := { blks := [], lv := [], nx := 0, gl := gl, df := [] }
theorem not_owned_none {g : Gh} {gl : Nat → Option (List AVal)} {b : Nat} : ¬ Owned (g.less 0 (fun _ => Option.none)) (AMem.none gl) b := by
  rintro (⟨i, hi⟩ | ⟨s, hs, _⟩)
  · exact absurd (less_φ hi).1 (Nat.not_lt_zero _)
  · cases hs
/-- WHAT HOLDS WHERE NO MEMORY IS NAMED HOLDS BESIDE ANY. -/
theorem ACalls.frame {P : Program} {f : FuncId} {args : List AVal} {gl : Nat → Option (List AVal)} {Q : AOut → Prop} (h : ACalls P f args (AMem.none gl) (fun o μ' => Q o ∧ μ' = AMem.none gl)) (hc : Cleans 0 0 args) {μ : AMem} (hgl : μ.gl = gl) :
    ACalls P f args μ (fun o μ' => Q o ∧ μ' = μ) := by
  refine ⟨fun g w cargs hs hw _ hv => ?_⟩
  have hid : ∀ r, r < 0 → (fun _ : Nat => (Option.none : Option Nat)) r = some r := fun r hr => absurd hr (Nat.not_lt_zero _)
  have hs0 : Sim P (g.less 0 (fun _ => Option.none)) w (AMem.none gl) := by
    constructor
    · intro i b e; exact absurd (less_φ e).1 (Nat.not_lt_zero _)
    · intro i j b k k' e; exact absurd (less_φ e).1 (Nat.not_lt_zero _)
    · intro i c e; simp [Gh.less] at e
    · intro i b k e; exact absurd (less_φ e).1 (Nat.not_lt_zero _)
    · exact hs.imm
    · intro i b k o e; exact absurd (less_φ e).1 (Nat.not_lt_zero _)
    · intro s b c n e ht; simp [Gh.less] at ht
    · intro s b c n e hs'; cases hs'
    · intro s b c n e i k hs'; cases hs'
    · intro s s' b c n e c' n' e' hs'; cases hs'
    · exact List.nodup_nil
    · intro s hs'; cases hs'
    · intro s _; rfl
    · intro b cs e
      exact VC_less (k := 0) (s := 0) hid b cs 0 (hw.gl b cs (by rw [hgl]; exact e)) (hs.gl b cs (by rw [hgl]; exact e))
  have hw0 : WFm (AMem.none gl) := ⟨fun b hb => (List.not_mem_nil hb).elim, fun b cs e => hw.gl b cs (by rw [hgl]; exact e), fun d hd => (List.not_mem_nil hd).elim⟩
  refine (h.out _ w cargs hs0 hw0 hc (VRs_less hid args cargs hc hv)).mono fun e w' ⟨o, μ', g', ⟨hq, hμ⟩, hst, hsim, hout, hwf, hcl, hnx, _⟩ => ?_
  subst hμ
  have hno : ∀ b, ¬ Owned (g.less 0 (fun _ => Option.none)) (AMem.none gl) b := fun b => not_owned_none
  have hH : ∀ b o, b < w.heap.size → g'.H b o = g.H b o := fun b o hb => hst.hn b o hb (hno b)
  have hblk : ∀ b, b < w.heap.size → w'.heap[b]? = w.heap[b]? := fun b hb => hst.frame.block b hb (hno b)
  let gn : Gh := { φ := g.φ, H := g'.H, T := g.T, Cp := g.Cp }
  have hle : g.le gn := ⟨fun _ _ e => e, fun b o x e => hst.le.H b o x e, fun _ _ e => e, fun _ _ e => e⟩
  have hle' : g'.le gn := ⟨fun i b e => absurd (hsim.lt i b e).1 (Nat.not_lt_zero _), fun _ _ _ e => e, fun s x e => (by rw [hsim.tf s (Nat.zero_le _)] at e; cases e), fun i c e => by
    obtain ⟨b, hb⟩ := hsim.cpl i c e
    exact absurd (hsim.lt i b hb).1 (Nat.not_lt_zero _)⟩
  have hsn : Sim P gn w' μ := by
    constructor
    · intro i b e'; have := hs.lt i b e'; exact ⟨this.1, Nat.lt_of_lt_of_le this.2 hst.frame.size⟩
    · exact hs.inj
    · exact hs.cpl
    · intro i b k e' hk; exact BR.mono hle (hblk b (hs.lt i b e').2) (hs.blk i b k e' hk)
    · exact hsim.imm
    · intro i b k o e' hk hd
      show g'.H b o = Option.none
      rw [hH b o (hs.lt i b e').2]; exact hs.sep i b k o e' hk hd
    · intro s b c n e' ht; exact Nat.lt_of_lt_of_le (hs.tlt s b c n e' ht) hst.frame.size
    · intro s b c n e' hs' ht
      obtain ⟨cs, hh, hz, hn⟩ := hs.tk s b c n e' hs' ht
      have hb := hs.tlt s b c n e' ht
      exact ⟨cs, (hblk b hb).trans hh, hz, fun o ho => by show g'.H b o = Option.none; rw [hH b o hb]; exact hn o ho⟩
    · exact hs.tsep
    · exact hs.tinj
    · exact hs.nd
    · exact hs.ll
    · exact hs.tf
    · intro b cs e'; exact VC.mono hle _ _ _ (hs.gl b cs e')
  refine ⟨o, μ, gn, ⟨hq, rfl⟩, ⟨hle, fun _ _ => rfl, Nat.le_refl _, fun b o hb _ => hH b o hb, ⟨hst.frame.os, hst.frame.tape, hst.frame.output, hst.frame.size, fun b hb _ => hblk b hb⟩, fun b _ ho => ho⟩, hsn, ?_, hw, Clean.mono (Nat.zero_le _) (Nat.zero_le _) _ hcl, Nat.le_refl _, rfl⟩
  cases o with
  | ret v =>
    cases e with
    | returned cv => exact VR.mono hle' _ _ hout
    | panicked ch => exact hout.elim
    | outgrown => exact hout.elim
  | panic v =>
    cases e with
    | returned cv => exact hout.elim
    | panicked ch => obtain ⟨cv, e1, h1⟩ := hout; exact ⟨cv, e1, VR.mono hle' _ _ h1⟩
    | outgrown => exact hout.elim
end Go.Proofs.YtjleeecaebgblaaGreatDoor.AL
namespace Go.Proofs.YtjleeecaebgblaaGreatDoor.AL
open Go.RowKit
/-- WHAT IS LEFT BEHIND IS NO ONE'S. -/
theorem ACalls.leave {P : Program} {f : FuncId} {args : List AVal} {gl : Nat → Option (List AVal)} {v : AVal} (h : ACalls P f args (AMem.none gl) (fun o μ' => o = .ret v ∧ μ'.gl = gl)) (hv : Clean 0 0 v) :
    ACalls P f args (AMem.none gl) (fun o μ' => o = .ret v ∧ μ' = AMem.none gl) := by
  refine ⟨fun g w cargs hs hw hc ha => (h.out g w cargs hs hw hc ha).mono fun e w' ⟨o, μ', g', ⟨ho, hgl⟩, hst, hsim, hout, hwf, hcl, hnx, hdf⟩ => ?_⟩
  subst ho
  have hj : J P g w (AMem.none gl) g' w' μ' := ⟨fun s h => hs.tf s h, hsim, hst, hwf, hnx, fun i b e => (hs.lt i b e).1, fun i c e => by
    obtain ⟨b, hb⟩ := hs.cpl i c e
    exact (hs.lt i b hb).1⟩
  have hm : MW (AMem.none gl).blks.length (AMem.none gl).nx (fun _ => Option.none) μ' (AMem.none gl) :=
    ⟨Nat.le_refl _, Nat.le_refl _, .nil _, fun r hr => absurd hr (Nat.not_lt_zero _), fun _ _ => rfl, fun r hr => (List.not_mem_nil hr).elim, fun r q hr => (List.not_mem_nil hr).elim, fun r r' q hr => (List.not_mem_nil hr).elim, List.nodup_nil, hgl.symm, hdf.symm, fun d hd => by rw [hdf] at hd; exact (List.not_mem_nil hd).elim⟩
  have hj' := hm.sound hj
  refine ⟨.ret v, AMem.none gl, _, ⟨rfl, rfl⟩, hj'.st, hj'.sim, ?_, hj'.wf, hv, Nat.le_refl _, rfl⟩
  cases e with
  | returned cv => exact VR_W (nx := 0) hm.id _ _ _ (.same v hv) hout
  | panicked ch => exact hout.elim
  | outgrown => exact hout.elim
/-- A CONTRACT OF VALUES ALONE. -/
theorem calls.pure {P : Program} {f : FuncId} {args : List AVal} {gl : Nat → Option (List AVal)} {v : AVal} (h : calls P f args (AMem.none gl) (fun o μ' => o = .ret v ∧ μ'.gl = gl)) (hv : Clean 0 0 v) (hc : Cleans 0 0 args) {μ : AMem} (hgl : μ.gl = gl) :
    calls P f args μ (fun o μ' => o = .ret v ∧ μ' = μ) :=
  ⟨h.1, (h.2.leave hv).frame hc hgl⟩
end Go.Proofs.YtjleeecaebgblaaGreatDoor.AL
