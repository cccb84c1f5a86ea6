/- Evaluating what is asked, step by step; clones of empty slices. -/
import Derived.Test.YtkgbfadglaepfaaGreatDoorA9
set_option linter.all false
namespace Go.Proofs.YtkgbfadglaepfaaGreatDoor.AL
open Go.RowKit
variable {P : Program} {b : Base} {K : AK} {E : AE} {A : ATmps} {μ : AMem}
theorem sy_skip : awp P b .skip K E A μ = K A μ := rfl
theorem sy_region (l : List AStep) : awp P b (.region l) K E A μ = stepsT P E l K A μ := rfl
theorem sy_draw (l : List DStep) : awp P b (.draw l) K E A μ = stepsD P E K l [] A μ := rfl
theorem sy_seq (x y : ACode) : awp P b (.seq x y) K E A μ = awp P b x (awp P b y K E) E A μ := rfl
theorem sy_cond (c : Operand) (x y : ACode) : awp P b (.cond c x y) K E A μ = cnd (aeval A c) fun t => (t = true → awp P b x K E A μ) ∧ (t = false → awp P b y K E A μ) := rfl
/-- What a block asks where it is left. -/
def blockE (id : Nat) (K : AK) (E : AE) : AE := fun e A μ => match e with
  | .exit j => if j = id then K A μ else E (.exit j) A μ
  | e => E e A μ
theorem sy_block (id : Nat) (c : ACode) : awp P b (.block id c) K E A μ = awp P b c K (blockE id K E) A μ := rfl
theorem sy_blockE (id j : Nat) : blockE id K E (.exit j) A μ = if j = id then K A μ else E (.exit j) A μ := rfl
theorem sy_blockR (id : Nat) : blockE id K E .ret A μ = E .ret A μ := rfl
theorem sy_exit (id : Nat) : awp P b (.exit id) K E A μ = E (.exit id) A μ := rfl
theorem sy_ret : awp P b .ret K E A μ = E .ret A μ := rfl
theorem sy_nil : stepsT P E [] K A μ = K A μ := rfl
theorem sy_cons (s : AStep) (l : List AStep) : stepsT P E (s :: l) K A μ = stepT P E s (stepsT P E l K) A μ := rfl
theorem sy_q (i : Nat) (d : Option Nat) (o : QOp) (rd rc : List Nat) : stepT P E ⟨i, d, none, .q o, rd, rc⟩ K A μ = ((o.sem A μ).ok ∧ K (put A d (o.sem A μ).v) μ) := rfl
theorem sy_n (i : Nat) (d : Option Nat) (o : NOp) (rd rc : List Nat) : stepT P E ⟨i, d, none, .n o, rd, rc⟩ K A μ = ((o.sem A).ok ∧ K (put A d ((o.sem A).v μ.blks.length)) { μ with blks := μ.blks ++ [(o.sem A).blk] }) := rfl
theorem sy_e (i : Nat) (d : Option Nat) (o : EOp) (rd rc : List Nat) : stepT P E ⟨i, d, none, .e o, rd, rc⟩ K A μ = ((o.sem A μ).ok ∧ K (put A d (o.sem A μ).v) (o.sem A μ).μ) := rfl
theorem sy_isnil (i : Nat) (d : Option Nat) (kd : NilK) (x : Operand) (neg : Bool) (rd rc : List Nat) : stepT P E ⟨i, d, none, .isnil kd x neg, rd, rc⟩ K A μ = isnilR kd neg (aeval A x) fun b => K (put A d (.lit (.bool b))) μ := rfl
theorem sy_call (i : Nat) (d : Option Nat) (f : FuncId) (args : List Operand) (rd rc : List Nat) : stepT P E ⟨i, d, none, .call f args, rd, rc⟩ K A μ = calls P f (args.map (aeval A)) μ (afterCall d A K E) := rfl
theorem sy_gq (i : Nat) (d : Option Nat) (t : Nat) (want : Bool) (o : QOp) (rd rc : List Nat) : stepT P E ⟨i, d, some (t, want), .q o, rd, rc⟩ K A μ = rg (gdR want (A t)) fun p => rsG p (o.sem (stripA p A) μ) fun v => K (put A d v) μ := rfl
theorem sy_gcall (i : Nat) (d : Option Nat) (t : Nat) (want : Bool) (f : FuncId) (args : List Operand) (rd rc : List Nat) : stepT P E ⟨i, d, some (t, want), .call f args, rd, rc⟩ K A μ = rg (gdR want (A t)) fun p =>
      (∃ v, Clean μ.blks.length μ.nx v ∧ (p = true → calls P f (args.map (aeval (stripA p A))) μ (fun o' μ' => o' = .ret v ∧ μ' = μ)) ∧ K (put A d (.opt p v)) μ) ∨
      ((p = true → calls P f (args.map (aeval (stripA p A))) μ (afterCall d A K E)) ∧ (p = false → K (put A d (.lit undef)) μ)) := rfl
theorem sy_put (d : Nat) (v : AVal) (t : Nat) : put A (some d) v t = if t = d then v else A t := rfl
theorem sy_put0 (v : AVal) : put A none v = A := rfl
theorem sy_tmp (t : Nat) : aeval A (.tmp t) = A t := rfl
theorem sy_int (k : IntKind) (n : Int) : aeval A (.const (.int k n)) = .lit (.int k n) := rfl
theorem sy_bool (n : Bool) : aeval A (.const (.bool n)) = .lit (.bool n) := rfl
theorem sy_nilsl : aeval A (.const (.slice none 0 0)) = .sl 0 [] .full := rfl
theorem sy_nilmap : aeval A (.const (.map none)) = .lit (.map none) := rfl
theorem sy_dnil (pd : Pend) : stepsD P E K [] pd A μ = K A μ := rfl
theorem sy_dcons (s : AStep) (l : List DStep) (pd : Pend) : stepsD P E K (.one s :: l) pd A μ = stepD P E s (stepsD P E K l) pd A μ := rfl
theorem sy_dq (i : Nat) (d : Option Nat) (o : QOp) (rd rc : List Nat) (K : Pend → AK) (pd : Pend) : stepD P E ⟨i, d, none, .q o, rd, rc⟩ K pd A μ =
    ((o.sem (rsA rd A) μ).ok ∧ K ((i, fun μ' => (o.sem (rsA rd A) μ').ok ∧ (o.sem (rsA rd A) μ').v = (o.sem (rsA rd A) μ).v) :: pd) (put A d (o.sem (rsA rd A) μ).v) μ) := rfl
theorem sy_rsA (rd : List Nat) (t : Nat) : rsA rd A t = if t ∈ rd then A t else .any := rfl
/-- A LOOP, by what holds at the beginning of each round. -/
theorem sy_loop {c : ACode} {α : Type} (ok : α → Prop) (I : α → ATmps × AMem) (m : α → Nat) (x0 : α) (h0 : ok x0) (hw : Wk b A μ (I x0).1 (I x0).2)
    (h : ∀ x, ok x → awp P b c (fun A' μ' => ∃ y, ok y ∧ m y < m x ∧ Wk b A' μ' (I y).1 (I y).2) E (I x).1 (I x).2) : awp P b (.loop c) K E A μ := .inr ⟨α, ok, I, m, x0, h0, hw, h⟩
/-- Nothing is forgotten but temporaries. -/
theorem Wk.tmps {b : Base} {A A' : ATmps} {μ : AMem} (hk : b.k ≤ μ.blks.length) (hs : b.s ≤ μ.nx) (hB : ∀ x ∈ μ.blks, CleanB μ.blks.length b.s x) (hlv : ∀ r ∈ μ.lv, r < μ.nx) (hnd : μ.lv.Nodup) (hdf : ∀ d ∈ μ.df, CleanD μ.blks.length b.s d)
    (ρ : Nat → Option Nat) (hid : ∀ r, r < b.s → ρ r = some r) (htop : ∀ r, μ.nx ≤ r → ρ r = none) (hlr : ∀ r q, r ∈ μ.lv → ρ r = some q → q ∈ μ.lv) (hinj : ∀ r r' q, r ∈ μ.lv → r' ∈ μ.lv → ρ r = some q → ρ r' = some q → r = r')
    (hv : ∀ t, VW μ.blks.length b.s μ.nx ρ (A t) (A' t)) : Wk b A μ A' μ := by
  refine ⟨ρ, ⟨hk, hs, ?_, hid, htop, hlv, hlr, hinj, hnd, rfl, rfl, hdf⟩, hv⟩
  generalize hq : μ.blks.length = q at hB
  generalize μ.blks = l at hB
  clear hq
  induction l with
  | nil => exact .nil _
  | cons x l ih => exact .cons _ _ _ _ (.same _ (hB x (by simp))) (ih fun y hy => hB y (by simp [hy]))
end Go.Proofs.YtkgbfadglaepfaaGreatDoor.AL
namespace Go.Proofs.YtkgbfadglaepfaaGreatDoor.AL
open Go.RowKit
/-- A clone of a slice. -/
def cloneF (e : TypeId) (sz bytes : Nat) : AFn :=
  ⟨(.seq (.region [⟨0, (some 2), none, (.q (.move (.const (.slice none 0 0)))), [], []⟩])
 (.seq (.seq (.region [⟨0, (some 3), none, (.q (.move (.tmp 0))), [], []⟩, ⟨1, (some 4), none, (.isnil .sl (.tmp 3) false), [], []⟩])
 (.cond (.tmp 4) (.seq (.region [⟨0, (some 2), none, (.q (.move (.const (.slice none 0 0)))), [], []⟩])
  .ret) .skip))
 (.seq (.region [⟨0, (some 5), none, (.q (.bslice sz 0 [])), [], []⟩, ⟨1, (some 6), none, (.q (.move (.tmp 0))), [], []⟩, ⟨2, (some 7), none, (.e (.appendM e sz bytes (.tmp 5) (.tmp 6))), [], []⟩, ⟨3, (some 2), none, (.q (.move (.tmp 7))), [], []⟩])
 .ret))),
  8, [.tmp 2]⟩
theorem clone_ok {P : Program} (hm : P.follows .mixedOrders = true) {mu : Nat → Nat → Bool} {f : FuncId} {e : TypeId} {sz bytes : Nat} (hF : mkFn P mu f = some (cloneF e sz bytes)) (hcal : callable P f = true) (μ : AMem) (tk : Tk) :
    calls P f [.sl 0 [] tk] μ (fun o μ' => o = .ret (.sl 0 [] .full) ∧ μ' = μ) := by
  refine ⟨hcal, ACalls.of hm hF (by simp [cloneF]) fun hw hcl => ?_⟩
  simp only [cloneF]
  simp [sy_seq, sy_region, sy_cons, sy_nil, sy_q, sy_isnil, QOp.sem, sy_tmp, sy_put, A0, isnilR, sy_nilsl, sy_cond, cnd, sy_skip, sy_ret, retE, retK, leaveA, retVs, oneOr, sy_e, EOp.sem, appendMR, asrc, bsliceR, aSeq, partsA, fullS, AMem.bare]
end Go.Proofs.YtkgbfadglaepfaaGreatDoor.AL
