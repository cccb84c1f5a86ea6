/- One step of the code; ranges over functions. -/
import Derived.Test.YtjleeecaebgblaaGreatDoorA6
import Derived.OrdersIn
import Derived.RangeFuncRecord
set_option linter.all false
namespace Go.Proofs.YtjleeecaebgblaaGreatDoor.AL
open Go.RowKit
def wideF (ro : Option Nat) : Fence := { Fence.wide with round := ro }
theorem callsIn_wideF {ro : Option Nat} {n : Nat} {P : Program} {f : FuncId} {args : Array Value} {w : World} {R : Ending → World → Prop} (h : Calls P f args w R) : CallsIn (wideF ro) n P f args w R := by
  have := (callsIn_wide (n := n)).2 h
  exact this
/-- The ways in which an operation is taken. -/
theorem mkOp_cases {P : Program} {m : Bool} {o : Oper} {s : SOp} (h : mkOp P m o = some s) :
    (∃ q, s = .n q ∧ resN P m o.op = some q) ∨ (∃ q, s = .e q ∧ resE P m o.op = some q) ∨ (∃ f args ts, s = .call f args ∧ o.op = .call ⟨.value (.func f), ⟨args⟩, ts⟩) ∨
    (∃ x args ts, s = .callv x args ∧ o.op = .call ⟨.value x, ⟨args⟩, ts⟩) ∨ (∃ x me args ts, s = .inv x me args ∧ o.op = .call ⟨.invoke x me, ⟨args⟩, ts⟩) ∨ (∃ x, s = .panic x ∧ o.op = .panic x) ∨
    (∃ kd op t x c yt, s = .isnil kd x (op == .neq) ∧ o.op = .binOp op t x (.const c) yt ∧ nilTy P t (.const c) = some kd ∧ (op = .eql ∨ op = .neq)) ∨ (∃ q, s = .q q ∧ resQ P o.op = some q) := by
  unfold mkOp at h
  split at h
  · cases h; exact .inl ⟨_, rfl, by assumption⟩
  · split at h
    · cases h; exact .inr (.inl ⟨_, rfl, by assumption⟩)
    · split at h
      · rename_i f args ts e
        split at h
        · rename_i q hq
          cases h
          exact .inr (.inr (.inr (.inr (.inr (.inr (.inr ⟨q, rfl, by rw [e]; exact hq⟩))))))
        · cases h; exact .inr (.inr (.inl ⟨_, _, _, rfl, by assumption⟩))
      · cases h; exact .inr (.inr (.inr (.inl ⟨_, _, _, rfl, by assumption⟩)))
      · cases h; exact .inr (.inr (.inr (.inr (.inl ⟨_, _, _, _, rfl, by assumption⟩))))
      · cases h; exact .inr (.inr (.inr (.inr (.inr (.inl ⟨_, rfl, by assumption⟩)))))
      · rename_i op t x c yt e
        split at h
        · rename_i kd hk
          split at h <;> cases h
          rename_i hc
          simp only [Bool.or_eq_true, beq_iff_eq] at hc
          exact .inr (.inr (.inr (.inr (.inr (.inr (.inl ⟨kd, op, t, x, c, yt, rfl, e, hk, hc⟩))))))
        · obtain ⟨q, hq, e'⟩ := Option.map_eq_some_iff.1 h
          exact .inr (.inr (.inr (.inr (.inr (.inr (.inr ⟨q, e'.symm, by rw [e]; exact hq⟩))))))
      · obtain ⟨q, hq, e'⟩ := Option.map_eq_some_iff.1 h
        exact .inr (.inr (.inr (.inr (.inr (.inr (.inr ⟨q, e'.symm, hq⟩))))))
theorem mkOp_q {P : Program} {m : Bool} {o : Oper} {q : QOp} (h : mkOp P m o = some (.q q)) : resQ P o.op = some q := by
  rcases mkOp_cases h with ⟨_, e, _⟩ | ⟨_, e, _⟩ | ⟨_, _, _, e, _⟩ | ⟨_, _, _, e, _⟩ | ⟨_, _, _, _, e, _⟩ | ⟨_, e, _⟩ | ⟨_, _, _, _, _, _, e, _⟩ | ⟨_, e, h⟩ <;> cases e
  exact h
theorem mkOp_n {P : Program} {m : Bool} {o : Oper} {q : NOp} (h : mkOp P m o = some (.n q)) : resN P m o.op = some q := by
  rcases mkOp_cases h with ⟨_, e, h⟩ | ⟨_, e, _⟩ | ⟨_, _, _, e, _⟩ | ⟨_, _, _, e, _⟩ | ⟨_, _, _, _, e, _⟩ | ⟨_, e, _⟩ | ⟨_, _, _, _, _, _, e, _⟩ | ⟨_, e, _⟩ <;> cases e
  exact h
theorem mkOp_e {P : Program} {m : Bool} {o : Oper} {q : EOp} (h : mkOp P m o = some (.e q)) : resE P m o.op = some q := by
  rcases mkOp_cases h with ⟨_, e, _⟩ | ⟨_, e, h⟩ | ⟨_, _, _, e, _⟩ | ⟨_, _, _, e, _⟩ | ⟨_, _, _, _, e, _⟩ | ⟨_, e, _⟩ | ⟨_, _, _, _, _, _, e, _⟩ | ⟨_, e, _⟩ <;> cases e
  exact h
theorem mkOp_call {P : Program} {m : Bool} {o : Oper} {f : FuncId} {args : List Operand} (h : mkOp P m o = some (.call f args)) : ∃ ts, o.op = .call ⟨.value (.func f), ⟨args⟩, ts⟩ := by
  rcases mkOp_cases h with ⟨_, e, _⟩ | ⟨_, e, _⟩ | ⟨_, _, ts, e, h⟩ | ⟨_, _, _, e, _⟩ | ⟨_, _, _, _, e, _⟩ | ⟨_, e, _⟩ | ⟨_, _, _, _, _, _, e, _⟩ | ⟨_, e, _⟩ <;> cases e
  exact ⟨ts, h⟩
theorem mkOp_callv {P : Program} {m : Bool} {o : Oper} {x : Operand} {args : List Operand} (h : mkOp P m o = some (.callv x args)) : ∃ ts, o.op = .call ⟨.value x, ⟨args⟩, ts⟩ := by
  rcases mkOp_cases h with ⟨_, e, _⟩ | ⟨_, e, _⟩ | ⟨_, _, _, e, _⟩ | ⟨_, _, ts, e, h⟩ | ⟨_, _, _, _, e, _⟩ | ⟨_, e, _⟩ | ⟨_, _, _, _, _, _, e, _⟩ | ⟨_, e, _⟩ <;> cases e
  exact ⟨ts, h⟩
theorem mkOp_inv {P : Program} {m : Bool} {o : Oper} {x : Operand} {me : String} {args : List Operand} (h : mkOp P m o = some (.inv x me args)) : ∃ ts, o.op = .call ⟨.invoke x me, ⟨args⟩, ts⟩ := by
  rcases mkOp_cases h with ⟨_, e, _⟩ | ⟨_, e, _⟩ | ⟨_, _, _, e, _⟩ | ⟨_, _, _, e, _⟩ | ⟨_, _, _, ts, e, h⟩ | ⟨_, e, _⟩ | ⟨_, _, _, _, _, _, e, _⟩ | ⟨_, e, _⟩ <;> cases e
  exact ⟨ts, h⟩
theorem mkOp_panic {P : Program} {m : Bool} {o : Oper} {x : Operand} (h : mkOp P m o = some (.panic x)) : o.op = .panic x := by
  rcases mkOp_cases h with ⟨_, e, _⟩ | ⟨_, e, _⟩ | ⟨_, _, _, e, _⟩ | ⟨_, _, _, e, _⟩ | ⟨_, _, _, _, e, _⟩ | ⟨_, e, h⟩ | ⟨_, _, _, _, _, _, e, _⟩ | ⟨_, e, _⟩ <;> cases e
  exact h
theorem mkOp_isnil {P : Program} {m : Bool} {o : Oper} {kd : NilK} {x : Operand} {neg : Bool} (h : mkOp P m o = some (.isnil kd x neg)) : ∃ op t c yt, neg = (op == .neq) ∧ o.op = .binOp op t x (.const c) yt ∧ nilTy P t (.const c) = some kd ∧ (op = .eql ∨ op = .neq) := by
  rcases mkOp_cases h with ⟨_, e, _⟩ | ⟨_, e, _⟩ | ⟨_, _, _, e, _⟩ | ⟨_, _, _, e, _⟩ | ⟨_, _, _, _, e, _⟩ | ⟨_, e, _⟩ | ⟨_, op, t, _, c, yt, e, hh⟩ | ⟨_, e, _⟩ <;> cases e
  exact ⟨op, t, c, yt, rfl, hh⟩
theorem mkOp_defer {P : Program} {m : Bool} {o : Oper} {s : SOp} (h : mkOp P m o = some s) : ∀ c, o.op ≠ .defer c := by
  intro c e
  rcases mkOp_cases h with ⟨_, _, h⟩ | ⟨_, _, h⟩ | ⟨_, _, _, _, h⟩ | ⟨_, _, _, _, h⟩ | ⟨_, _, _, _, _, h⟩ | ⟨_, _, h⟩ | ⟨_, _, _, _, _, _, _, h, _⟩ | ⟨_, _, h⟩ <;> rw [e] at h
  · simp [resN] at h
  · simp [resE] at h
  · cases h
  · cases h
  · cases h
  · cases h
  · cases h
  · simp [resQ] at h
theorem eq_sn (P : Program) (d : Nat) (t e : TypeId) (hu : P.underlying t = some (.slice e)) (A : Option Addr) (n c : Nat) (w : World) : (Op.equalIn (d + 1) t (.slice A n c) (.slice none 0 0)).run P w = .ok A.isNone w := by
  cases A <;> simp only [Op.equalIn, Sem.run_bind, run_underlying hu, Result.andThen_ok, Sem.run_pure] <;> rfl
theorem eq_mn (P : Program) (d : Nat) (t k e : TypeId) (hu : P.underlying t = some (.map k e)) (A : Option Nat) (w : World) : (Op.equalIn (d + 1) t (.map A) (.map none)).run P w = .ok A.isNone w := by
  cases A <;> simp only [Op.equalIn, Sem.run_bind, run_underlying hu, Result.andThen_ok, Sem.run_pure] <;> rfl
theorem eq_fn (P : Program) (d : Nat) (t : TypeId) (ps rs : Array TypeId) (va : Bool) (hu : P.underlying t = some (.func ps rs va)) (w : World) : (Op.equalIn (d + 1) t .nilFunc .nilFunc).run P w = .ok true w ∧ ∀ f a b, (Op.equalIn (d + 1) t (.func f a b) .nilFunc).run P w = .ok false w := by
  constructor
  · simp only [Op.equalIn, Sem.run_bind, run_underlying hu, Result.andThen_ok, Sem.run_pure]
  · intro f a b; simp only [Op.equalIn, Sem.run_bind, run_underlying hu, Result.andThen_ok, Sem.run_pure]
/-- A comparison with nil. -/
theorem run_isnil {P : Program} {g : Gh} {w : World} {N : Nat} {A : ATmps} {a : Act} (ht : TR N g A a) {m : Bool} {o : Oper} {kd : NilK} {x : Operand} {neg : Bool} (ho : mkOp P m o = some (.isnil kd x neg)) {k : Bool → Prop} (h : isnilR kd neg (aeval A x) k) :
    ∃ b, (execOp a.eval o).run P w = .ok (.value (.bool b)) w ∧ k b := by
  obtain ⟨op, t, c, yt, hneg, e, hty, hop⟩ := mkOp_isnil ho
  have kx := ht.eval x
  have fin : ∀ b : Bool, (∀ op, op = .eql ∨ op = .neq → binOp op t (a.eval x) c = (match op with | .eql => (do pure (.bool (← Op.equal t (a.eval x) c))) | _ => (do pure (.bool (!(← Op.equal t (a.eval x) c)))))) →
      (∀ op, op = .eql ∨ op = .neq → (eqGuard op t x (.const c) (a.eval x) c).run P w = .ok () w) → (Op.equalIn (9999 + 1) t (a.eval x) c).run P w = .ok b w → k (if neg then !b else b) → ∃ b, (execOp a.eval o).run P w = .ok (.value (.bool b)) w ∧ k b := by
    intro b hb hg he hk
    have := eql_of hb hg he
    refine ⟨_, ?_, hk⟩
    have hex : execOp a.eval o = (do pure (.value (← (do eqGuard op t x (.const c) (a.eval x) c; binOp op t (a.eval x) c : Sem Value))) : Sem Next) := by
      simp only [execOp, e, Act.eval]
    rw [hex, Sem.run_bind]
    subst hneg
    rcases hop with rfl | rfl
    · rw [this.1]; rfl
    · rw [this.2]; rfl
  generalize hv : aeval A x = v at h kx
  unfold nilTy at hty
  split at hty <;> try (cases hty; done)
  · rename_i el hu hc
    cases hc; cases hty
    cases v <;> try (exact (h : False).elim)
    case sl n cs tk =>
      simp only [VR] at kx
      obtain ⟨A', c', hcx, hn, _, hcs⟩ := kx
      rw [hcx] at fin
      have hnil : n ≠ 0 → A'.isNone = false := fun hne => by
        rcases hcs with ⟨h0, _⟩ | ⟨b, o', rfl, _⟩
        · exact absurd h0 hne
        · rfl
      refine fin A'.isNone (fun op ho => by rcases ho with rfl | rfl <;> rfl) (fun op ho => by rcases ho with rfl | rfl <;> rfl) (eq_sn P 9999 t el hu A' n c' w) ?_
      refine h _ fun hne => ?_
      rw [hnil hne]; cases neg <;> rfl
    case ms id off n tk =>
      simp only [VR] at kx
      obtain ⟨b, c', _, hcx, _⟩ := kx
      rw [hcx] at fin
      exact fin false (fun op ho => by rcases ho with rfl | rfl <;> rfl) (fun op ho => by rcases ho with rfl | rfl <;> rfl) (eq_sn P 9999 t el hu _ n c' w) (by cases neg <;> exact h)
  · rename_i hu hc
    cases hc; cases hty
    cases v <;> try (exact (h : False).elim)
    case lit v =>
      cases v <;> try (exact (h : False).elim)
      simp only [VR] at kx
      rw [kx] at fin
      exact fin true (fun op ho => by rcases ho with rfl | rfl <;> rfl) (fun op ho => by rcases ho with rfl | rfl <;> rfl) (eq_fn P 9999 t _ _ _ hu w).1 (by cases neg <;> exact h)
    case fn f fs cs =>
      simp only [VR] at kx
      obtain ⟨vs, us, hcx, _⟩ := kx
      rw [hcx] at fin
      exact fin false (fun op ho => by rcases ho with rfl | rfl <;> rfl) (fun op ho => by rcases ho with rfl | rfl <;> rfl) ((eq_fn P 9999 t _ _ _ hu w).2 _ _ _) (by cases neg <;> exact h)
  · rename_i hu hc
    cases hc; cases hty
    cases v <;> try (exact (h : False).elim)
    case mp id =>
      simp only [VR] at kx
      obtain ⟨b, _, hcx⟩ := kx
      rw [hcx] at fin
      exact fin false (fun op ho => by rcases ho with rfl | rfl <;> rfl) (fun op ho => by rcases ho with rfl | rfl <;> rfl) (eq_mn P 9999 t _ _ hu _ w) (by cases neg <;> exact h)
    case lit v =>
      cases v <;> try (exact (h : False).elim)
      rename_i q
      cases q <;> try (exact (h : False).elim)
      simp only [VR] at kx
      rw [kx] at fin
      exact fin true (fun op ho => by rcases ho with rfl | rfl <;> rfl) (fun op ho => by rcases ho with rfl | rfl <;> rfl) (eq_mn P 9999 t _ _ hu _ w) (by cases neg <;> exact h)
section
variable {P : Program} {N n : Nat} {ro : Option Nat} {g0 : Gh} {w0 : World} {μ0 : AMem}
/-- The model's state is told by an abstract one. -/
def ASt (P : Program) (N : Nat) (g0 : Gh) (w0 : World) (μ0 : AMem) (A : ATmps) (μ : AMem) (a : Act) (w : World) : Prop :=
  ∃ g, J P g0 w0 μ0 g w μ ∧ TR N g A a ∧ CleanA μ.blks.length μ.nx A ∧ DfR P g μ.df a.defers
def Post (P : Program) (N : Nat) (g0 : Gh) (w0 : World) (μ0 : AMem) (K : AK) (E : AE) : Exit → Act → World → Prop
  | .normal, a, w => ∃ A μ, K A μ ∧ ASt P N g0 w0 μ0 A μ a w
  | .exit id, a, w => ∃ A μ, E (.exit id) A μ ∧ ASt P N g0 w0 μ0 A μ a w
  | .goto l, a, w => ∃ A μ, E (.goto l) A μ ∧ ASt P N g0 w0 μ0 A μ a w
  | .ret, a, w => ∃ A μ, E .ret A μ ∧ ASt P N g0 w0 μ0 A μ a w
  | .panic ch, a, w => ∃ A μ g v cv, ch = [{ v := cv, recovered := false }] ∧ E (.panic v) A μ ∧ J P g0 w0 μ0 g w μ ∧ TR N g A a ∧ CleanA μ.blks.length μ.nx A ∧ DfR P g μ.df a.defers ∧ VR g v cv ∧ Clean μ.blks.length μ.nx v
  | .outgrown, _, _ => False
theorem J.step {g : Gh} {w : World} {μ : AMem} (h : J P g0 w0 μ0 g w μ) {g' : Gh} {w' : World} {μ' : AMem} (hs : Sim P g' w' μ') (ht : St g w μ g' w' μ') (hw : WFm μ') (hn : μ.nx ≤ μ'.nx) : J P g0 w0 μ0 g' w' μ' :=
  ⟨h.base, hs, h.st.trans ht, hw, Nat.le_trans h.nx hn, h.bl, h.bc⟩
theorem put_defers (a : Act) (d : Option Tmp) (v : Value) : (a.put d v).defers = a.defers := by cases d <;> rfl
/-- What follows an operation. -/
def Nxt (P : Program) (N : Nat) (g0 : Gh) (w0 : World) (μ0 : AMem) (K : AK) (a : Act) (w : World) : Prop := ∃ A μ, K A μ ∧ ASt P N g0 w0 μ0 A μ a w
theorem upon_value {o : Oper} {a : Act} {w w' : World} {cv : Value} {next : Act → World → Prop} {Q : Exit → Act → World → Prop} (hd : ∀ c, o.op ≠ .defer c) (h : (execOp a.eval o).run P w = .ok (.value cv) w') (hn : next (a.put o.dst cv) w') : o.wpIn (wideF ro) n P a w next Q := by
  refine ⟨fun f _ => trivial, ?_⟩
  rw [Oper.semAt_eq _ _ _ hd, h]
  exact hn
theorem upon_skip {o : Oper} {a : Act} {w w' : World} {next : Act → World → Prop} {Q : Exit → Act → World → Prop} (hd : ∀ c, o.op ≠ .defer c) (h : (execOp a.eval o).run P w = .ok .skip w') (hn : next (a.put o.dst undef) w') : o.wpIn (wideF ro) n P a w next Q := by
  refine ⟨fun f _ => trivial, ?_⟩
  rw [Oper.semAt_eq _ _ _ hd, h]
  exact hn
theorem upon_enter {o : Oper} {a : Act} {w w' : World} {f : FuncId} {args : Array Value} {next : Act → World → Prop} {Q : Exit → Act → World → Prop} (hd : ∀ c, o.op ≠ .defer c) (h : (execOp a.eval o).run P w = .ok (.enter f args) w')
    (hn : Calls P f args w' fun
      | .returned v, w'' => next (a.put o.dst v) w''
      | .panicked chain, w'' => Q (.panic chain) a w''
      | .outgrown, _ => LetsOut Q) : o.wpIn (wideF ro) n P a w next Q := by
  refine ⟨fun f _ => trivial, ?_⟩
  rw [Oper.semAt_eq _ _ _ hd, h]
  exact ⟨fun hh => by simp [wideF, Fence.wide] at hh, callsIn_wideF hn⟩
theorem roundIn_wideF {l : Nat} {f : FuncId} {tmps : Array Value} {asgn body : Code} {w : World} {R : Ending → World → Prop} (h : RoundIn Fence.wide n P l f tmps asgn body w R) : RoundIn (wideF ro) n P l f tmps asgn body w R := h
theorem upon_round {o : Oper} {a : Act} {w w' : World} {l : Nat} {f : FuncId} {tmps : Array Value} {asgn body : Code} {next : Act → World → Prop} {Q : Exit → Act → World → Prop} (hd : ∀ c, o.op ≠ .defer c) (h : (execOp a.eval o).run P w = .ok (.round l f tmps asgn body) w')
    (hn : ∀ m, RoundIn Fence.wide m P l f tmps asgn body w' fun
      | .returned v, w'' => next (a.put o.dst v) w''
      | .panicked chain, w'' => Q (.panic chain) a w''
      | .outgrown, _ => LetsOut Q) : o.wpIn (wideF ro) n P a w next Q := by
  refine ⟨fun f _ => trivial, ?_⟩
  rw [Oper.semAt_eq _ _ _ hd, h]
  exact ⟨fun hh => by simp [wideF, Fence.wide] at hh, roundIn_wideF (hn _)⟩
theorem upon_panic {o : Oper} {a : Act} {w w' : World} {v : Value} {next : Act → World → Prop} {Q : Exit → Act → World → Prop} (hd : ∀ c, o.op ≠ .defer c) (h : (execOp a.eval o).run P w = .halt (.panic v) w') (hn : Q (.panic [{ v, recovered := false }]) a w') : o.wpIn (wideF ro) n P a w next Q := by
  refine ⟨fun f _ => trivial, ?_⟩
  rw [Oper.semAt_eq _ _ _ hd, h]
  exact hn
/-- A call, or a panic, in the model. -/
theorem run_callFunc {f : FuncId} (h : callable P f = true) (args : Array Value) (w : World) : (callFunc f args).run P w = .ok (.enter f args) w := by
  unfold callable at h
  split at h
  · rename_i fn hf
    simp only [Bool.and_eq_true, bne_iff_ne, ne_eq] at h
    obtain ⟨b, hb⟩ := Option.isSome_iff_exists.1 h.1
    simp [callFunc, program, Sem.run, hf, h.2, hb]
  · cases h
/-- What a call comes to. A: the temporaries that its operands are read from. -/
theorem run_aCall {g : Gh} {w : World} {μ : AMem} {A : ATmps} {a : Act} (hs : Sim P g w μ) (hw : WFm μ) (ht : TR N g A a) (hc : CleanA μ.blks.length μ.nx A) {m : Bool} {o : Oper} {op : SOp} (ho : mkOp P m o = some op)
    {Q : AOut → AMem → Prop} (h : aCall P op A μ Q) {next : Act → World → Prop} {QE : Exit → Act → World → Prop}
    (hret : ∀ v μ' g' w' cv, Q (.ret v) μ' → St g w μ g' w' μ' → Sim P g' w' μ' → VR g' v cv → WFm μ' → Clean μ'.blks.length μ'.nx v → μ.nx ≤ μ'.nx → μ'.df = μ.df → next (a.put o.dst cv) w')
    (hpan : ∀ v μ' g' w' cv, Q (.panic v) μ' → St g w μ g' w' μ' → Sim P g' w' μ' → VR g' v cv → WFm μ' → Clean μ'.blks.length μ'.nx v → μ.nx ≤ μ'.nx → μ'.df = μ.df → QE (.panic [{ v := cv, recovered := false }]) a w') :
    o.wpIn (wideF ro) n P a w next QE := by
  have hd := mkOp_defer ho
  have fin : ∀ (e : Ending) (w' : World) (o' : AOut) (μ' : AMem) (g' : Gh), Q o' μ' → St g w μ g' w' μ' → Sim P g' w' μ' → OutR g' o' e → WFm μ' → Clean μ'.blks.length μ'.nx o'.val → μ.nx ≤ μ'.nx → μ'.df = μ.df →
      (match e, w' with
        | .returned v, w'' => next (a.put o.dst v) w''
        | .panicked chain, w'' => QE (.panic chain) a w''
        | .outgrown, _ => LetsOut QE) := by
    intro e w' o' μ' g' hq hst hsim hout hwf hcln hnx hdf
    cases o' with
    | ret v =>
      cases e with
      | returned cv => exact hret v μ' g' w' cv hq hst hsim hout hwf hcln hnx hdf
      | panicked ch => exact hout.elim
      | outgrown => exact hout.elim
    | panic v =>
      cases e with
      | returned cv => exact hout.elim
      | panicked ch =>
        obtain ⟨cv, rfl, hv⟩ := hout
        exact hpan v μ' g' w' cv hq hst hsim hv hwf hcln hnx hdf
      | outgrown => exact hout.elim
  have enter : ∀ (f : FuncId) (l : List AVal) (cl : List Value) , calls P f l μ Q → VRs g l cl → Cleans μ.blks.length μ.nx l → (execOp a.eval o).run P w = (callFunc f ⟨cl⟩).run P w → o.wpIn (wideF ro) n P a w next QE := by
    intro f l cl hcall hv hcl he
    rw [run_callFunc hcall.1] at he
    refine upon_enter hd he ?_
    refine (hcall.2.out g w cl hs hw hcl hv).mono fun e w' ⟨o', μ', g', hq, hst, hsim, hout, hwf, hcln, hnx, hdf⟩ => ?_
    cases o' with
    | ret v =>
      cases e with
      | returned cv => exact hret v μ' g' w' cv hq hst hsim hout hwf hcln hnx hdf
      | panicked ch => exact hout.elim
      | outgrown => exact hout.elim
    | panic v =>
      cases e with
      | returned cv => exact hout.elim
      | panicked ch =>
        obtain ⟨cv, rfl, hv⟩ := hout
        exact hpan v μ' g' w' cv hq hst hsim hv hwf hcln hnx hdf
      | outgrown => exact hout.elim
  cases op with
  | q => exact h.elim
  | n => exact h.elim
  | e => exact h.elim
  | isnil => exact h.elim
  | call f args =>
    obtain ⟨ts, e⟩ := mkOp_call ho
    refine enter f _ (args.map a.eval) h (evals ht args) (hc.evals args) ?_
    simp [execOp, e, resolve, Deferred.ofValue, Act.eval, invoke]
  | callv x args =>
    obtain ⟨ts, e⟩ := mkOp_callv ho
    have hx := ht.eval x
    have hcx := hc.eval x
    simp only [aCall] at h
    unfold callvR at h
    split at h
    · rename_i f fs cs hxe
      rw [hxe] at hx hcx
      simp only [VR] at hx
      simp only [Clean] at hcx
      obtain ⟨vs, us, hfe, h1, h2⟩ := hx
      refine enter f _ (vs ++ args.map a.eval ++ us) h ((h1.append (evals ht args)).append h2) ((hcx.1.append (hc.evals args)).append hcx.2) ?_
      simp [execOp, e, resolve, Deferred.ofValue, hfe, invoke]
    · rename_i id hxe
      rw [hxe] at hx
      simp only [VR] at hx
      obtain ⟨b, hb, hfe⟩ := hx
      obtain ⟨f, tmps, asgn, body, hy, hr⟩ := h.out g w (args.map a.eval) b hs hw (hc.evals args) (evals ht args) hb
      have he : (execOp a.eval o).run P w = .ok (.round b f tmps asgn body) w := by
        rw [← hy]
        simp [execOp, e, resolve, Deferred.ofValue, hfe, invoke]
      refine upon_round hd he fun m => (hr m).mono fun e w' ⟨o', μ', g', hq, hst, hsim, hout, hwf, hcln, hnx, hdf⟩ => ?_
      exact fin e w' o' μ' g' hq hst hsim hout hwf hcln hnx hdf
    · exact h.elim
  | inv x m args =>
    obtain ⟨ts, e⟩ := mkOp_inv ho
    have hx := ht.eval x
    have hcx := hc.eval x
    simp only [aCall] at h
    unfold methOf at h
    split at h
    · rename_i t v hxe
      rw [hxe] at hx hcx
      simp only [VR] at hx
      simp only [Clean] at hcx
      obtain ⟨c, hce, hv⟩ := hx
      obtain ⟨f, v', hm, hcall⟩ := h
      obtain ⟨c', hr, hv'⟩ := hm.2 g c w hv
      refine enter f _ (c' :: args.map a.eval) hcall ?_ ?_ ?_
      · simp only [VRs]; exact ⟨_, _, rfl, hv', evals ht args⟩
      · simp only [Cleans]; exact ⟨hm.1 _ _ hcx, hc.evals args⟩
      · simp [execOp, e, resolve, hce, invoke, callMethod, program, Sem.run]
        have ht : List.take args.length (List.map a.eval args) = List.map a.eval args := List.take_of_length_le (by simp)
        rw [hr, ht]; rfl
    · exact h.elim
  | panic x =>
    have e := mkOp_panic ho
    have hx := ht.eval x
    have hcx := hc.eval x
    simp only [aCall] at h
    split at h
    · rename_i t v hxe
      rw [hxe] at hx hcx
      have hx' := hx
      simp only [VR] at hx
      obtain ⟨c, hce, hv⟩ := hx
      refine upon_panic hd (w' := w) (v := .iface t c) ?_ (hpan _ μ g w _ h (.refl _ _ _) hs (by rw [hce] at hx'; exact hx') hw hcx (Nat.le_refl _) rfl)
      simp [execOp, e, hce, Instr.panic, goPanic, Sem.run]
    · exact h.elim
/-- The guard of an operation. -/
theorem wanted_spec {g : Gh} {A : ATmps} {a : Act} (ht : TR N g A a) {ops : Array Oper} {o : Oper} {j t : Nat} {want : Bool} (hg : o.guard = some (j, want)) (hj : (ops[j]?).bind (·.dst) = some t) (htN : t < N) (hok : (gdR want (A t)).ok) :
    Region.wanted o (yielded ops a.tmps) = (gdR want (A t)).b := by
  have hv := ht.val t
  have hget : a.tmps[t]? = some (a.tmps.getD t undef) := by
    have hlt : t < a.tmps.size := by rw [ht.size]; exact htN
    rw [Array.getD_eq_getD_getElem?]
    simp [hlt]
  have hy : yielded ops a.tmps j = match a.tmps.getD t undef with | .bool b => some b | _ => none := by
    unfold yielded
    rw [hj]
    simp only [Option.bind_some]
    rw [hget]
    cases a.tmps.getD t undef <;> rfl
  have hw : Region.wanted o (yielded ops a.tmps) = (yielded ops a.tmps j == some want) := by simp [Region.wanted, hg]
  rw [hw, hy]
  unfold gdR at hok ⊢
  split at hok
  · rename_i b hA
    rw [hA] at hv
    simp only [VR] at hv
    rw [hv]
    cases b <;> cases want <;> rfl
  · rename_i q b hA
    rw [hA] at hv
    simp only [VR] at hv
    cases q
    · rw [hv.2 rfl]; rfl
    · rw [hv.1 rfl]; cases b <;> cases want <;> rfl
  · exact hok.elim
theorem mkStep_spec {mu : Nat → Bool} {ops : Array Oper} {i : Nat} {s : AStep} (h : mkStep P N mu ops i = some s) : ∃ o, ops[i]? = some o ∧ s.i = i ∧ s.dst = o.dst ∧ dstOk N o.dst = true ∧ mkOp P (mu i) o = some s.op ∧
    ((o.guard = none ∧ s.guard = none) ∨ ∃ j want t, o.guard = some (j, want) ∧ (ops[j]?).bind (·.dst) = some t ∧ t < N ∧ s.guard = some (t, want)) := by
  unfold mkStep at h
  split at h
  · cases h
  rename_i o ho
  split at h
  · rename_i hd
    split at h
    · cases h
    rename_i op hop
    split at h
    · rename_i hg
      cases h
      exact ⟨o, ho, rfl, rfl, hd, hop, .inl ⟨hg, rfl⟩⟩
    · rename_i j want hg
      split at h
      · rename_i t ht
        split at h
        · rename_i hlt
          cases h
          exact ⟨o, ho, rfl, rfl, hd, hop, .inr ⟨j, want, t, hg, ht, hlt, rfl⟩⟩
        · cases h
      · cases h
  · cases h
theorem ASt.put {g : Gh} {w : World} {μ : AMem} (hj : J P g0 w0 μ0 g w μ) {A : ATmps} {a : Act} (ht : TR N g A a) (hc : CleanA μ.blks.length μ.nx A) (hD : DfR P g μ.df a.defers) {d : Option Nat} (hd : dstOk N d = true) {v : AVal} {cv : Value} (hv : VR g v cv) (hcv : Clean μ.blks.length μ.nx v) :
    ASt P N g0 w0 μ0 (put A d v) μ (a.put d cv) w :=
  ⟨g, hj, ht.put hd hv, hc.put d hcv, by rw [put_defers]; exact hD⟩
theorem isDead_N {A : ATmps} {q : NOp} (hok : (q.sem A).ok) : (q.sem A).blk.isDead = false := by
  cases q <;> simp only [NOp.sem] at hok ⊢ <;> try rfl
  · split at hok
    · rfl
    · exact hok.elim
  · split at hok
    · rfl
    · exact hok.elim
theorem stepT_sound {mu : Nat → Bool} {ops : Array Oper} {s : AStep} (hs : mkStep P N mu ops s.i = some s) {K : AK} {E : AE} {A : ATmps} {μ : AMem} {a : Act} {w : World} (h : stepT P E s K A μ) (hst : ASt P N g0 w0 μ0 A μ a w) {K' : AK} :
    wpOpIn (wideF ro) n P ops (Post P N g0 w0 μ0 K' E) s.i (Nxt P N g0 w0 μ0 K) a w := by
  obtain ⟨o, ho, _, hdst, hdok, hop, hguard⟩ := mkStep_spec hs
  obtain ⟨g, hj, ht, hc, hD⟩ := hst
  have hd := mkOp_defer hop
  unfold wpOpIn
  simp only [ho]
  rcases hguard with ⟨hg, hsg⟩ | ⟨j, want, t, hg, hjt, htN, hsg⟩
  · have hw : Region.wanted o (yielded ops a.tmps) = true := by simp [Region.wanted, hg]
    rw [if_pos hw]
    have after : ∀ {A' : ATmps} {Q : AOut → AMem → Prop}, aCall P s.op A μ (afterCall s.dst A K E) → o.wpIn (wideF ro) n P a w (Nxt P N g0 w0 μ0 K) (Post P N g0 w0 μ0 K' E) := by
      intro A' Q h
      refine run_aCall hj.sim hj.wf ht hc hop h ?_ ?_
      · intro v μ' g' w' cv hq hst' hsim' hv hwf hcl hnx hdf
        have hD' : DfR P g' μ'.df a.defers := by rw [hdf]; exact DfR.mono hst'.le _ _ hD
        have hj' := hj.step hsim' hst' hwf hnx
        rw [← hdst]
        exact ⟨_, _, hq, ASt.put hj' (ht.mono hst'.le) (hc.mono hst'.len hnx) hD' (by rw [hdst]; exact hdok) hv hcl⟩
      · intro v μ' g' w' cv hq hst' hsim' hv hwf hcl hnx hdf
        have hD' : DfR P g' μ'.df a.defers := by rw [hdf]; exact DfR.mono hst'.le _ _ hD
        have hj' := hj.step hsim' hst' hwf hnx
        exact ⟨A, μ', g', v, cv, rfl, hq, hj', ht.mono hst'.le, hc.mono hst'.len hnx, hD', hv, hcl⟩
    unfold stepT at h
    rw [hsg] at h
    cases hso : s.op with
    | q q =>
      simp only [hso] at h
      rw [hso] at hop
      obtain ⟨hok, hk⟩ := h
      obtain ⟨cv, w', g', hr, hv, hsim', hst'⟩ := run_Q hj.sim ht (mkOp_q hop) hok
      refine upon_value hd hr ?_
      rw [← hdst]
      exact ⟨_, _, hk, ASt.put (hj.step hsim' hst' hj.wf (Nat.le_refl _)) (ht.mono hst'.le) hc (DfR.mono hst'.le _ _ hD) (by rw [hdst]; exact hdok) hv (Clean_Q hj.wf hc (resQ_closed (mkOp_q hop)))⟩
    | n q =>
      simp only [hso] at h
      rw [hso] at hop
      obtain ⟨hok, hk⟩ := h
      obtain ⟨obj, cv, hr, hb⟩ := run_N (g := g) (w := w) ht (mkOp_n hop) hok
      have hle : g.le (g.name μ.blks.length w.heap.size) := Gh.le_name (hj.sim.φ_new (Nat.le_refl _)) (hj.sim.Cp_none (hj.sim.φ_new (Nat.le_refl _)))
      obtain ⟨hbr, hvr⟩ := hb (g.name μ.blks.length w.heap.size) μ.blks.length hle (by simp [Gh.name])
      obtain ⟨hcb, hcv⟩ := Clean_N (k := μ.blks.length + 1) (hc.mono (Nat.le_succ _) (Nat.le_refl _)) (resN_closed (mkOp_n hop))
      have hal := Sim.alloc hj.sim obj (q.sem A).blk none hbr (isDead_N hok)
      refine upon_value hd hr ?_
      rw [← hdst]
      exact ⟨_, _, hk, ASt.put (hj.step hal.1 hal.2 (hj.wf.snoc hcb) (Nat.le_refl _)) (ht.mono hal.2.le) (by
        have := hc.mono (Nat.le_succ μ.blks.length) (Nat.le_refl μ.nx)
        simpa using this) (DfR.mono hal.2.le _ _ hD) (by rw [hdst]; exact hdok) hvr (by
        have := hcv μ.blks.length (Nat.lt_succ_self _)
        simpa using this)⟩
    | e q =>
      simp only [hso] at h
      rw [hso] at hop
      obtain ⟨hok, hk⟩ := h
      obtain ⟨nx, cv, w', g', hr, hn, hv, hsim', hst'⟩ := run_E hj.sim ht (mkOp_e hop) hok
      obtain ⟨hcl, hwf, hlen, hnx⟩ := Clean_E hj.wf hc (resE_closed (mkOp_e hop)) hok
      have fin : Nxt P N g0 w0 μ0 K (a.put o.dst cv) w' := by
        rw [← hdst]
        exact ⟨_, _, hk, ASt.put (hj.step hsim' hst' hwf hnx) (ht.mono hst'.le) (hc.mono hlen hnx) (by rw [E_df]; exact DfR.mono hst'.le _ _ hD) (by rw [hdst]; exact hdok) hv hcl⟩
      rcases hn with rfl | ⟨rfl, rfl⟩
      · exact upon_value hd hr fin
      · exact upon_skip hd hr fin
    | isnil kd x b =>
      simp only [hso] at h
      rw [hso] at hop
      obtain ⟨r, hr, hk⟩ := run_isnil (w := w) ht hop h
      refine upon_value hd hr ?_
      rw [← hdst]
      exact ⟨_, _, hk, ASt.put hj ht hc hD (by rw [hdst]; exact hdok) (by simp [VR]) (by simp [Clean])⟩
    | call f args => simp only [hso] at h; rw [← hso] at h; exact after (A' := A) (Q := fun _ _ => True) h
    | callv x args => simp only [hso] at h; rw [← hso] at h; exact after (A' := A) (Q := fun _ _ => True) h
    | inv x m args => simp only [hso] at h; rw [← hso] at h; exact after (A' := A) (Q := fun _ _ => True) h
    | panic x => simp only [hso] at h; rw [← hso] at h; exact after (A' := A) (Q := fun _ _ => True) h
  · unfold stepT at h
    rw [hsg] at h
    have skip : ∀ {v : AVal}, VR g v undef → Clean μ.blks.length μ.nx v → K (put A s.dst v) μ → ((∀ f, o.about P w a.eval = some f → (wideF ro).fn f) ∧ Nxt P N g0 w0 μ0 K (a.put o.dst undef) w) := by
      intro v hv hcv hk
      refine ⟨fun _ _ => trivial, ?_⟩
      rw [← hdst]
      exact ⟨_, _, hk, ASt.put hj ht hc hD (by rw [hdst]; exact hdok) hv hcv⟩
    have guarded : (rg (gdR want (A t)) fun p =>
      (∃ v, Clean μ.blks.length μ.nx v ∧ (p = true → aCall P s.op (stripA p A) μ (fun o' μ' => o' = .ret v ∧ μ' = μ)) ∧ K (put A s.dst (.opt p v)) μ) ∨
      ((p = true → aCall P s.op (stripA p A) μ (afterCall s.dst A K E)) ∧ (p = false → K (put A s.dst (.lit undef)) μ))) →
      (if Region.wanted o (yielded ops a.tmps) = true then o.wpIn (wideF ro) n P a w (Nxt P N g0 w0 μ0 K) (Post P N g0 w0 μ0 K' E)
        else (∀ f, o.about P w a.eval = some f → (wideF ro).fn f) ∧ Nxt P N g0 w0 μ0 K (a.put o.dst undef) w) := by
      intro h
      obtain ⟨hgok, h⟩ := h
      have hw := wanted_spec ht hg hjt htN hgok
      generalize hp : (gdR want (A t)).b = p at hw h
      cases p with
      | false =>
        rw [if_neg (by rw [hw]; simp)]
        rcases h with ⟨v, h0, h1, h2⟩ | ⟨h1, h2⟩
        · exact skip (v := .opt false v) (by simp [VR]) (by simpa [Clean] using h0) h2
        · exact skip (by simp [VR]) (by simp [Clean]) (h2 rfl)
      | true =>
        rw [if_pos hw]
        rcases h with ⟨v, h0, h1, h2⟩ | ⟨h1, h2⟩
        · refine run_aCall hj.sim hj.wf (ht.strip rfl) (hc.strip _) hop (h1 rfl) ?_ ?_
          · intro v' μ' g' w' cv hq hst' hsim' hv hwf hcl hnx hdf
            have hD' : DfR P g' μ'.df a.defers := by rw [hdf]; exact DfR.mono hst'.le _ _ hD
            obtain ⟨e1, rfl⟩ := hq
            cases e1
            have hj' := hj.step hsim' hst' hwf hnx
            rw [← hdst]
            exact ⟨_, _, h2, ASt.put hj' (ht.mono hst'.le) (hc.mono hst'.len hnx) hD' (by rw [hdst]; exact hdok) (by simp only [VR]; exact ⟨fun _ => hv, by simp⟩) (by simpa [Clean] using hcl)⟩
          · intro v' μ' g' w' cv hq hst' hsim' hv hwf hcl hnx hdf
            have hD' : DfR P g' μ'.df a.defers := by rw [hdf]; exact DfR.mono hst'.le _ _ hD
            cases hq.1
        · refine run_aCall hj.sim hj.wf (ht.strip rfl) (hc.strip _) hop (h1 rfl) ?_ ?_
          · intro v μ' g' w' cv hq hst' hsim' hv hwf hcl hnx hdf
            have hD' : DfR P g' μ'.df a.defers := by rw [hdf]; exact DfR.mono hst'.le _ _ hD
            have hj' := hj.step hsim' hst' hwf hnx
            rw [← hdst]
            exact ⟨_, _, hq, ASt.put hj' (ht.mono hst'.le) (hc.mono hst'.len hnx) hD' (by rw [hdst]; exact hdok) hv hcl⟩
          · intro v μ' g' w' cv hq hst' hsim' hv hwf hcl hnx hdf
            have hD' : DfR P g' μ'.df a.defers := by rw [hdf]; exact DfR.mono hst'.le _ _ hD
            have hj' := hj.step hsim' hst' hwf hnx
            exact ⟨A, μ', g', v, cv, rfl, hq, hj', ht.mono hst'.le, hc.mono hst'.len hnx, hD', hv, hcl⟩
    cases hso : s.op with
    | q q =>
      simp only [hso] at h
      rw [hso] at hop
      obtain ⟨hgok, hok, hk⟩ := h
      have hw := wanted_spec ht hg hjt htN hgok
      generalize hp : (gdR want (A t)).b = p at hw hok hk
      have hcl : Clean μ.blks.length μ.nx (q.sem (stripA p A) μ).v := Clean_Q hj.wf (hc.strip p) (resQ_closed (mkOp_q hop))
      cases p with
      | false =>
        rw [if_neg (by rw [hw]; simp)]
        exact skip (by simp [VR]) (by simpa [Clean] using hcl) hk
      | true =>
        rw [if_pos hw]
        obtain ⟨cv, w', g', hr, hv, hsim', hst'⟩ := run_Q hj.sim (ht.strip rfl) (mkOp_q hop) (hok rfl)
        refine upon_value hd hr ?_
        rw [← hdst]
        exact ⟨_, _, hk, ASt.put (hj.step hsim' hst' hj.wf (Nat.le_refl _)) (ht.mono hst'.le) hc (DfR.mono hst'.le _ _ hD) (by rw [hdst]; exact hdok) (by simp only [VR]; exact ⟨fun _ => hv, by simp⟩) (by simpa [Clean] using hcl)⟩
    | n q => simp only [hso] at h
    | e q => simp only [hso] at h
    | isnil kd x b => simp only [hso] at h
    | call f args => simp only [hso] at h; rw [← hso] at h; exact guarded h
    | callv x args => simp only [hso] at h; rw [← hso] at h; exact guarded h
    | inv x m args => simp only [hso] at h; rw [← hso] at h; exact guarded h
    | panic x => simp only [hso] at h; rw [← hso] at h; exact guarded h
end
end Go.Proofs.YtjleeecaebgblaaGreatDoor.AL
namespace Go.Proofs.YtjleeecaebgblaaGreatDoor.AL
open Go.RowKit
theorem Sim.df {P : Program} {g : Gh} {w : World} {μ : AMem} (h : Sim P g w μ) (d : List ADef) : Sim P g w { μ with df := d } :=
  ⟨h.lt, h.inj, h.cpl, h.blk, h.imm, h.sep, h.tlt, h.tk, h.tsep, h.tinj, h.nd, h.ll, h.tf, h.gl⟩
theorem St.df {g : Gh} {w : World} {μ : AMem} {g' : Gh} {w' : World} {μ' : AMem} (h : St g w μ g' w' μ') (d : List ADef) : St g w μ g' w' { μ' with df := d } :=
  ⟨h.le, h.agree, h.len, h.hn, ⟨h.frame.os, h.frame.tape, h.frame.output, h.frame.size, h.frame.block⟩, h.own⟩
/-- r names the record of the round that one is in. -/
def RoR (g0 : Gh) (ro : Option Nat) : Option Nat → Prop
  | none => ro = none
  | some id => ∃ b, ro = some b ∧ g0.φ id = some b
section
variable {P : Program} {N n : Nat} {ro : Option Nat} {g0 : Gh} {w0 : World} {μ0 : AMem}
/-- The record is laid. -/
theorem enter_spec {g : Gh} {w : World} {μ : AMem} {A : ATmps} {a : Act} {r : Option Nat} (hj : J P g0 w0 μ0 g w μ) (ht : TR N g A a) (hc : CleanA μ.blks.length μ.nx A) (hD : DfR P g μ.df a.defers) (hro : RoR g0 ro r) (hin : inLoop μ r)
    {x y : Code} {ps : Array Nat} {L : ALoop} (hL : L.st = .ready ∧ L.pend = none ∧ (L.n = N ∧ L.tmps = A) ∧ L.ps = ps.toList ∧ L.is x y) (fn : FuncId) :
    ∃ l mark w1 g1, (Instr.enterLoop fn a.tmps ps x y ro).run P w = .ok (l, mark) w1 ∧ Sim P g1 w1 (entered r L μ) ∧ St g w μ g1 w1 (entered r L μ) ∧ g1.φ (enteredAt r μ) = some l ∧ DfR P g1 (entered r L μ).df (mark ++ a.defers) ∧ WFm (entered r L μ) ∧ (entered r L μ).nx = μ.nx ∧ enteredAt r μ < (entered r L μ).blks.length := by
  obtain ⟨l1, l2, l3, l4, l5⟩ := hL
  cases r with
  | none =>
    have hro' : ro = none := hro
    subst hro'
    have hw := hj.wf
    have h1 := Sim.alloc hj.sim (.deferred (some [])) .dfr none (by simp only [BR]; exact heap_alloc_new' _ _) rfl
    have h2 := Sim.alloc h1.1 (.loop { state := .ready, pending := none, fn := fn, tmps := a.tmps, params := ps, assign := x, body := y, defers := w.heap.size }) (.loop L) none (by
      simp only [BR]
      refine ⟨fn, a.tmps, x, y, w.heap.size, ?_, ?_, l5⟩
      · rw [heap_alloc_new', l1, l2, l4]; rfl
      · rw [l3.1, l3.2]
        have hle : (g.name μ.blks.length w.heap.size none).le ((g.name μ.blks.length w.heap.size none).name (μ.blks ++ [ABlk.dfr]).length (w.alloc (.deferred (some []))).heap.size none) := Gh.le_name (h1.1.φ_new (Nat.le_refl _)) (h1.1.Cp_none (h1.1.φ_new (Nat.le_refl _)))
        exact ⟨ht.size, fun t => VR.mono (h1.2.le.trans hle) _ _ (ht.val t)⟩) rfl
    refine ⟨_, _, _, _, run_enterLoop_outer fn a.tmps ps x y, h2.1.df _, (h1.2.trans h2.2).df _, ?_, ?_, ?_, rfl, ?_⟩
    · simp [Gh.name, enteredAt]
    · refine ⟨w.heap.size, _, _, rfl, ?_, DfR.mono (h1.2.le.trans h2.2.le) _ _ hD⟩
      simp [Gh.name]
    · have hb : WFm { μ with blks := μ.blks ++ [.dfr] ++ [.loop L] } := (hw.snoc (b := .dfr) trivial).snoc (b := .loop L) (by
        simp only [CleanB, l3.2]
        exact fun t => Clean.mono (by simp; omega) (Nat.le_refl _) _ (hc t))
      refine ⟨hb.blk, hb.gl, fun d hd => ?_⟩
      rcases List.mem_cons.1 hd with rfl | hd
      · simp [CleanD, entered]
      · exact hb.df d hd
    · simp [enteredAt, entered]
  | some id =>
    obtain ⟨b, rfl, hb⟩ := hro
    obtain ⟨L', hL'⟩ := hin
    have hb' := hj.st.le.φ _ _ hb
    have hbr := hj.sim.blk id b _ hb' hL'
    simp only [BR] at hbr
    obtain ⟨fn', tmps', asgn', body', ds', hh, _, _⟩ := hbr
    have h2 := Sim.alloc hj.sim (.loop { state := .ready, pending := none, fn := fn, tmps := a.tmps, params := ps, assign := x, body := y, defers := ds' }) (.loop L) none (by
      simp only [BR]
      refine ⟨fn, a.tmps, x, y, ds', ?_, ?_, l5⟩
      · rw [heap_alloc_new', l1, l2, l4]; rfl
      · rw [l3.1, l3.2]
        exact ⟨ht.size, fun t => VR.mono (Gh.le_name (hj.sim.φ_new (Nat.le_refl _)) (hj.sim.Cp_none (hj.sim.φ_new (Nat.le_refl _)))) _ _ (ht.val t)⟩) rfl
    refine ⟨w.heap.size, [], _, _, ?_, h2.1, h2.2, ?_, ?_, ?_, rfl, ?_⟩
    · unfold Instr.enterLoop
      simp only [Sem.run_bind, run_getLoop hh, Result.andThen, Sem.run_pure, run_newObj_alloc]
    · simp [Gh.name, enteredAt]
    · exact DfR.mono h2.2.le _ _ hD
    · exact hj.wf.snoc (b := .loop L) (by
        simp only [CleanB, l3.2]
        exact fun t => Clean.mono (Nat.le_succ _) (Nat.le_refl _) _ (hc t))
    · simp [enteredAt, entered]
/-- A loop's record is written. -/
theorem write_loop {g : Gh} {w : World} {μ : AMem} (hs : Sim P g w μ) {id b : Nat} (hb : g.φ id = some b) {L : ALoop} (hL : μ.blks[id]? = some (.loop L)) :
    ∃ r : Loop, w.heap[b]? = some (.loop r) ∧ r.state = L.st ∧ r.pending = L.pend.map AJump.code ∧ ∀ (st : LoopState) (pend : Option AJump),
      Sim P g (w.putObj b (.loop { r with state := st, pending := pend.map AJump.code })) { μ with blks := μ.blks.set id (.loop { L with st := st, pend := pend }) } ∧
      St g w μ g (w.putObj b (.loop { r with state := st, pending := pend.map AJump.code })) { μ with blks := μ.blks.set id (.loop { L with st := st, pend := pend }) } := by
  have hbr := hs.blk id b _ hb hL
  have hlt := (hs.lt id b hb).2
  simp only [BR] at hbr
  obtain ⟨fn, tmps, asgn, body, ds, hh, hv, hi⟩ := hbr
  refine ⟨_, hh, rfl, rfl, fun st pend => Sim.write hs hb hL rfl rfl rfl rfl (by simp) (fun c hc => World.putObj_heap_other hc) ?_⟩
  simp only [BR]
  exact ⟨fn, tmps, asgn, body, ds, World.putObj_heap_same hlt, hv, hi⟩
/-- A loop's record is done with. -/
theorem write_dead {g : Gh} {w : World} {μ : AMem} (hs : Sim P g w μ) {id b : Nat} (hb : g.φ id = some b) {k : ABlk} (hk : μ.blks[id]? = some k) (hd : k.isDead = false) (o : Obj) :
    Sim P g (w.putObj b o) { μ with blks := μ.blks.set id .dead } ∧ St g w μ g (w.putObj b o) { μ with blks := μ.blks.set id .dead } :=
  Sim.write hs hb hk hd rfl rfl rfl (by simp) (fun c hc => World.putObj_heap_other hc) (by simp [BR])
theorem range_sound {mu : Nat → Nat → Bool} {r : Option Nat} (hro : RoR g0 ro r) {x y : Code} {ax ay : ACode} (hx : norm P N mu x = some ax) (hy : norm P N mu y = some ay) {gx : Operand} {ps : Array Nat} {K : AK} {E : AE} {A : ATmps} {μ : AMem} {a : Act} {w : World}
    (h : aRange P r N (aeval A gx) ps.toList ax ay K E A μ) (hst : ASt P N g0 w0 μ0 A μ a w) : (Code.rangeFunc gx ps x y).wpIn (wideF ro) n P (Post P N g0 w0 μ0 K E) a w := by
  obtain ⟨g, hj, ht, hc, hD⟩ := hst
  refine wpIn_rangeFunc fun fn _ => ?_
  have hfv := ht.eval gx
  have hcx := hc.eval gx
  unfold aRange at h
  split at h
  · rename_i f fs cs hxe
    obtain ⟨hin, hcall⟩ := h
    obtain ⟨l, mark, w1, g1, hent, hs1, hst1, hφ, hD1, hw1, hnx1, hlt1⟩ := enter_spec hj ht hc hD hro hin (x := x) (y := y) (ps := ps) (L := loop0 P N ps.toList ax ay A) ⟨rfl, rfl, ⟨rfl, rfl⟩, rfl, mu, hx, hy⟩ fn
    rw [hxe] at hfv hcx
    simp only [VR] at hfv
    simp only [Clean] at hcx
    obtain ⟨vs, us, hfe, h1, h2⟩ := hfv
    have hv1 := VRs.mono hst1.le _ _ h1
    have hv2 := VRs.mono hst1.le _ _ h2
    have hl1 := hst1.len
    have hcl1 : Cleans (entered r (loop0 P N ps.toList ax ay A) μ).blks.length (entered r (loop0 P N ps.toList ax ay A) μ).nx (fs ++ [.yld (enteredAt r μ)] ++ cs) := by
      refine Cleans.append (Cleans.append (Cleans.mono hl1 (by omega) _ hcx.1) ?_) (Cleans.mono hl1 (by omega) _ hcx.2)
      simp only [Cleans, Clean]; exact ⟨hlt1, trivial⟩
    have hvr1 : VRs g1 (fs ++ [.yld (enteredAt r μ)] ++ cs) (vs ++ [.func (.yield l) #[] #[]] ++ us) := by
      refine VRs.append (VRs.append hv1 ?_) hv2
      simp only [VRs, VR]
      exact ⟨_, _, rfl, ⟨l, hφ, rfl⟩, rfl⟩
    have hcalls := hcall.2.out g1 w1 (vs ++ [.func (.yield l) #[] #[]] ++ us) hs1 hw1 hcl1 hvr1
    refine ⟨l, mark, w1, { target := .fn (.func f) ⟨us⟩, args := ⟨vs⟩ ++ #[.func (.yield l) #[] #[]] }, w1, f, ⟨vs ++ [.func (.yield l) #[] #[]] ++ us⟩, w1, hent, ?_, fun _ _ => trivial, ?_, fun hh => by simp [wideF, Fence.wide] at hh, callsIn_wideF ?_⟩
    · have hcst : ∀ v, a.eval (.const v) = v := fun _ => rfl
      simp [resolve, rangeCall, Deferred.ofValue, hfe, hcst]
    · have := run_callFunc hcall.1 (⟨vs ++ [.func (.yield l) #[] #[]] ++ us⟩ : Array Value) w1
      rw [← this]
      simp [invoke]
    · refine hcalls.mono fun e w' ⟨o, μ', g', hq, hst', hsim', hout, hwf', hcl', hnx', hdf'⟩ => ?_
      have hj' : J P g0 w0 μ0 g' w' μ' := hj.step hsim' (hst1.trans hst') hwf' (by omega)
      have hle := hst1.le.trans hst'.le
      have hD' : DfR P g' μ'.df (mark ++ a.defers) := by rw [hdf']; exact DfR.mono hst'.le _ _ hD1
      have hc' : CleanA μ'.blks.length μ'.nx A := hc.mono (Nat.le_trans hl1 hst'.len) (by omega)
      cases o with
      | ret v =>
        cases e with
        | returned cv =>
          obtain ⟨L, hL, hbusy, hk⟩ := hq
          have hb' := hst'.le.φ _ _ hφ
          obtain ⟨rec, hh, hs2, hp2, hwr⟩ := write_loop hsim' hb' hL
          have hend := run_endLoop (P := P) hh (by rw [hs2]; exact hbusy)
          have hdead := write_dead hsim' hb' hL rfl (.loop { rec with state := .exhausted })
          refine ⟨_, _, hend, ?_⟩
          have hwf2 : WFm { μ' with blks := μ'.blks.set (enteredAt r μ) .dead } := hwf'.set _ trivial
          have hst2 : ASt P N g0 w0 μ0 A { μ' with blks := μ'.blks.set (enteredAt r μ) .dead } { a with defers := mark ++ a.defers } (w'.putObj l (.loop { rec with state := .exhausted })) :=
            ⟨g', hj'.step hdead.1 hdead.2 hwf2 (Nat.le_refl _), ⟨ht.size, (ht.mono hle).val⟩, by simpa using hc', hD'⟩
          generalize w'.putObj l (.loop { rec with state := .exhausted }) = w5 at hst2 ⊢
          rw [hp2]
          generalize L.pend = pj at hk ⊢
          cases pj with
          | none => exact ⟨A, _, hk, hst2⟩
          | some j =>
            cases j with
            | ret => exact wpIn_ret ⟨A, _, hk, hst2⟩
            | exit id => exact wpIn_exit ⟨A, _, hk, hst2⟩
            | goto t => exact wpIn_goto ⟨A, _, hk, hst2⟩
        | panicked ch => exact hout.elim
        | outgrown => exact hout.elim
      | panic v =>
        cases e with
        | returned cv => exact hout.elim
        | panicked ch =>
          obtain ⟨cv, rfl, hv⟩ := hout
          exact ⟨A, μ', g', v, cv, rfl, hq, hj', ⟨ht.size, (ht.mono hle).val⟩, hc', hD', hv, hcl'⟩
        | outgrown => exact hout.elim
  · exact h.elim
end
end Go.Proofs.YtjleeecaebgblaaGreatDoor.AL
