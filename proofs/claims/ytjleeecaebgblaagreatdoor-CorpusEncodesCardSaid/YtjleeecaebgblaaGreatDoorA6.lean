/- Code with its types and its order of evaluation resolved; what is asked of it; forgetting. -/
import Derived.Test.YtjleeecaebgblaaGreatDoorA5
set_option linter.all false
namespace Go.Proofs.YtjleeecaebgblaaGreatDoor.AL
open Go.RowKit
inductive NilK where
  | sl
  | fn
  | map
inductive SOp where
  | q (o : QOp)
  | n (o : NOp)
  | e (o : EOp)
  | call (f : FuncId) (args : List Operand)
  | callv (x : Operand) (args : List Operand)
  | inv (x : Operand) (name : String) (args : List Operand)
  | panic (x : Operand)
  | isnil (k : NilK) (x : Operand) (neg : Bool)
/-- A step of a region. rd: the temporaries it looks at; rc: the earlier steps that are not ordered before it (regions that draw). -/
structure AStep where
  i : Nat
  dst : Option Nat
  guard : Option (Nat × Bool)
  op : SOp
  rd : List Nat := []
  rc : List Nat := []
/-- Steps of a region that draws: one, or two effects in whatever order. -/
inductive DStep where
  | one (s : AStep)
  | two (s t : AStep)
inductive ACode where
  | skip
  | region (l : List AStep)
  | draw (l : List DStep)
  | seq (a b : ACode)
  | cond (c : Operand) (a b : ACode)
  | block (id : Nat) (c : ACode)
  | loop (c : ACode)
  | exit (id : Nat)
  | scope (c : ACode)
  | label (l : Nat)
  | goto (l : Nat)
  | ret
  | rangeF (N : Nat) (g : Operand) (ps : List Nat) (a b : ACode)
  | deferR (l : List AStep) (x : Operand) (args : List Operand)
/-! ### from the program's code -/
/-- A type whose values may be compared with nil alone. -/
def nilTy (P : Program) (t : TypeId) (c : Operand) : Option NilK :=
  match P.underlying t, c with
  | some (.slice _), .const (.slice none 0 0) => some .sl
  | some (.func ..), .const .nilFunc => some .fn
  | some (.map ..), .const (.map none) => some .map
  | _, _ => none
def mkOp (P : Program) (mu : Bool) (o : Oper) : Option SOp :=
  match resN P mu o.op with
  | some q => some (.n q)
  | none => match resE P mu o.op with
    | some q => some (.e q)
    | none => match o.op with
      | .call ⟨.value (.func f), args, ts⟩ => match resQ P (.call ⟨.value (.func f), args, ts⟩) with
        | some q => some (.q q)
        | none => some (.call f args.toList)
      | .call ⟨.value x, args, _⟩ => some (.callv x args.toList)
      | .call ⟨.invoke r m, args, _⟩ => some (.inv r m args.toList)
      | .panic x => some (.panic x)
      | .binOp op t x (.const c) yt => match nilTy P t (.const c) with
        | some k => if op == .eql || op == .neq then some (.isnil k x (op == .neq)) else none
        | none => (resQ P (.binOp op t x (.const c) yt)).map .q
      | op => (resQ P op).map .q
/-- mu: which 'append's make rows of the abstract memory. -/
def mkStep (P : Program) (N : Nat) (mu : Nat → Bool) (ops : Array Oper) (i : Nat) : Option AStep :=
  match ops[i]? with
  | none => none
  | some o => if dstOk N o.dst then
      match mkOp P (mu i) o with
      | none => none
      | some op => match o.guard with
        | none => some { i, dst := o.dst, guard := none, op }
        | some (j, want) => match (ops[j]?).bind (·.dst) with
          | some t => if t < N then some { i, dst := o.dst, guard := some (t, want), op } else none
          | none => none
    else none
def mkSteps (P : Program) (N : Nat) (mu : Nat → Bool) (ops : Array Oper) : List Nat → Option (List AStep)
  | [] => some []
  | i :: l => match mkStep P N mu ops i, mkSteps P N mu ops l with
    | some s, some r => some (s :: r)
    | _, _ => none
/-- All that lies before an operation. -/
def befL (ops : Array Oper) : List (List Nat) :=
  (ops.toList.foldl (fun acc o => acc ++ [(o.after.toList.foldl (fun s e => if Region.binds .any e then (e.on :: acc.getD e.on []) ++ s else s) []).eraseDups]) [])
def befOk (ops : Array Oper) (B : List (List Nat)) : Bool :=
  (List.range ops.size).all fun i => match ops[i]? with
    | none => false
    | some o => (B.getD i []).all fun j => decide (j < i) && o.after.toList.any fun e => Region.binds .any e && (decide (e.on < i)) && (e.on == j || (B.getD e.on []).contains j)
def SOp.eff : SOp → Bool
  | .q _ | .n _ => false
  | _ => true
def opTmps (ops : Array Oper) (o : Oper) : List Nat := (o.looksAt ops).eraseDups
/-- An effect's step: the earlier ones that are not ordered before it. -/
def effStep (ops : Array Oper) (B : List (List Nat)) (done : List Nat) (s : AStep) (o : Oper) : AStep := { s with rd := opTmps ops o, rc := done.filter fun j => !(B.getD s.i []).contains j }
/-- The order in which a region that draws is looked at: effects as late as may be. -/
def lazyOrder (P : Program) (N : Nat) (mu : Nat → Bool) (ops : Array Oper) (B : List (List Nat)) : Nat → Array Bool → List Nat → Option (List DStep)
  | 0, listed, _ => if Region.ready .any ops listed = [] then some [] else none
  | fuel + 1, listed, done =>
    let rs := Region.ready .any ops listed
    match rs with
    | [] => some []
    | _ => match rs.find? (fun i => match mkStep P N mu ops i with | some s => !s.op.eff | none => false) with
      | some i => match mkStep P N mu ops i, ops[i]? with
        | some s, some o => (lazyOrder P N mu ops B fuel (listed.setIfInBounds i true) (i :: done)).map fun r => .one { s with rd := opTmps ops o } :: r
        | _, _ => none
      | none => match rs with
        | [i] => match mkStep P N mu ops i, ops[i]? with
          | some s, some o => (lazyOrder P N mu ops B fuel (listed.setIfInBounds i true) done).map fun r => .one (effStep ops B done s o) :: r
          | _, _ => none
        | [i, j] => if Region.ready .any ops (listed.setIfInBounds i true) = [j] ∧ Region.ready .any ops (listed.setIfInBounds j true) = [i] then
            match mkStep P N mu ops i, ops[i]?, mkStep P N mu ops j, ops[j]? with
            | some s, some o, some t, some q => (lazyOrder P N mu ops B fuel ((listed.setIfInBounds i true).setIfInBounds j true) done).map fun r => .two (effStep ops B done s o) (effStep ops B done t q) :: r
            | _, _, _, _ => none
          else none
        | _ => none
def shares (ops : Array Oper) (x y : Oper) : Bool :=
  match x.dst with
  | some d => (y.looksAt ops).contains d
  | none => false
def namesOk (ops : Array Oper) (B : List (List Nat)) : Bool :=
  (List.range ops.size).all fun i => (List.range ops.size).all fun j => match ops[i]?, ops[j]? with
    | some x, some y => i == j || ((!(shares ops x y) || (B.getD j []).contains i || (B.getD i []).contains j) && !(x.dst.isSome && x.dst == y.dst))
    | _, _ => true
def edgesOk (ops : Array Oper) : Bool :=
  (List.range ops.size).all fun i => match ops[i]? with
    | none => false
    | some o => o.after.toList.all fun e => !Region.binds .any e || decide (e.on < i)
/-- What the steps write. -/
def dstsD : List DStep → List Nat
  | [] => []
  | .one s :: l => s.dst.toList ++ dstsD l
  | .two s t :: l => s.dst.toList ++ (t.dst.toList ++ dstsD l)
def outOk (ops : Array Oper) (l : List DStep) : Bool := ops.toList.all fun o => match o.dst with
  | some d => (dstsD l).contains d
  | none => true
def mkDraw (P : Program) (N : Nat) (mu : Nat → Bool) (ops : Array Oper) : Option (List DStep) :=
  let B := befL ops
  if befOk ops B && namesOk ops B && edgesOk ops then match lazyOrder P N mu ops B ops.size (Array.replicate ops.size false) [] with
    | some l => if outOk ops l then some l else none
    | none => none
  else none
/-- A region whose last operation defers a call. -/
def lastDefer (ops : Array Oper) : Option (Operand × List Operand) :=
  match ops.back? with
  | some o => match o.op, o.guard, o.dst with
    | .defer ⟨.value x, args, _⟩, none, none => some (x, args.toList)
    | _, _, _ => none
  | none => none
def norm (P : Program) (N : Nat) (mu : Nat → Nat → Bool) : Code → Option ACode
  | .skip => some .skip
  | .region id ops false => match lastDefer ops with
    | some (x, args) => (mkSteps P N (mu id) ops (List.range (ops.size - 1))).map fun l => .deferR l x args
    | none => (mkSteps P N (mu id) ops (List.range ops.size)).map .region
  | .region id ops true => (mkDraw P N (mu id) ops).map .draw
  | .seq a b => match norm P N mu a, norm P N mu b with
    | some a, some b => some (.seq a b)
    | _, _ => none
  | .cond c a b => match norm P N mu a, norm P N mu b with
    | some a, some b => some (.cond c a b)
    | _, _ => none
  | .block id c => (norm P N mu c).map (.block id)
  | .loop c => (norm P N mu c).map .loop
  | .exit id => some (.exit id)
  | .scope c => (norm P N mu c).map .scope
  | .label l => some (.label l)
  | .goto l => some (.goto l)
  | .ret => some .ret
  | .rangeFunc g ps a b => if ps.toList.all (fun t => decide (t < N)) then match norm P N mu a, norm P N mu b with
      | some a, some b => some (.rangeF N g ps.toList a b)
      | _, _ => none
    else none
  | _ => none
/-! ### what is asked -/
inductive AExit where
  | exit (id : Nat)
  | goto (l : Nat)
  | ret
  | panic (v : AVal)
abbrev AK := ATmps → AMem → Prop
abbrev AE := AExit → ATmps → AMem → Prop
def rs (r : Rs) (k : AVal → Prop) : Prop := r.ok ∧ k r.v
def rsG (p : Bool) (r : Rs) (k : AVal → Prop) : Prop := (p = true → r.ok) ∧ k (.opt p r.v)
def rn (r : Rnew) (k : ABlk → (Nat → AVal) → Prop) : Prop := r.ok ∧ k r.blk r.v
def re (r : Re) (k : AVal → AMem → Prop) : Prop := r.ok ∧ k r.v r.μ
def gdR (want : Bool) (v : AVal) : Rb :=
  match v with
  | .lit (.bool b) => ⟨True, b == want⟩
  | .opt q (.lit (.bool b)) => ⟨True, q && (b == want)⟩
  | _ => ⟨False, false⟩
def rg (r : Rb) (k : Bool → Prop) : Prop := r.ok ∧ k r.b
def cnd (v : AVal) (k : Bool → Prop) : Prop :=
  match v with
  | .lit (.bool b) => k b
  | _ => False
/-- What follows a call. -/
def afterCall (d : Option Nat) (A : ATmps) (K : AK) (E : AE) : AOut → AMem → Prop
  | .ret v, μ => K (put A d v) μ
  | .panic v, μ => E (.panic v) A μ
def afterCallD (d : Option Nat) (A : ATmps) (K : AK) (E : AE) : AOut → AMem → Prop
  | .ret v, μ => K (put A d v) μ
  | .panic v, μ => E (.panic v) A μ
/-- What a region that draws its order may have written when a call of it panics. -/
def hideA (ds : List Nat) (A : ATmps) : ATmps := fun t => if ds.contains t then .any else A t
def hideE (ds : List Nat) (E : AE) : AE := fun e A μ => E e (hideA ds A) μ
/-- The function and the arguments behind a function value. -/
def fnOf (x : AVal) (args : List AVal) (k : FuncId → List AVal → Prop) : Prop :=
  match x with
  | .fn (.func f) fs cs => k f (fs ++ args ++ cs)
  | _ => False
/-- A call of a function value, or of a loop's yield. -/
def callvR (x : AVal) (args : List AVal) (k : FuncId → List AVal → Prop) (ky : Nat → List AVal → Prop) : Prop :=
  match x with
  | .fn (.func f) fs cs => k f (fs ++ args ++ cs)
  | .yld id => ky id args
  | _ => False
def callable (P : Program) (f : FuncId) : Bool :=
  match P.funcs[f]? with
  | some fn => fn.body.isSome && fn.name != "runtime.NumGoroutine"
  | none => false
def calls (P : Program) (f : FuncId) (args : List AVal) (μ : AMem) (Q : AOut → AMem → Prop) : Prop := callable P f = true ∧ ACalls P f args μ Q
/-- The value behind an interface value, and its method. -/
def methOf (P : Program) (x : AVal) (name : String) (k : FuncId → AVal → Prop) : Prop :=
  match x with
  | .ifc t v => ∃ f v', ((∀ k s, Clean k s v → Clean k s v') ∧ ∀ (g : Gh) (c : Value) (w : World), VR g v c → ∃ c', (method (P.types.size + Made.depth) t c name).run P w = .ok (f, c') w ∧ VR g v' c') ∧ k f v'
  | _ => False
def aCall (P : Program) (o : SOp) (A : ATmps) (μ : AMem) (Q : AOut → AMem → Prop) : Prop :=
  match o with
  | .call f args => calls P f (args.map (aeval A)) μ Q
  | .callv x args => callvR (aeval A x) (args.map (aeval A)) (fun f l => calls P f l μ Q) (fun id l => ARounds P id l μ Q)
  | .inv x name args => methOf P (aeval A x) name fun f v => calls P f (v :: args.map (aeval A)) μ Q
  | .panic x => match aeval A x with
    | .ifc t v => Q (.panic (.ifc t v)) μ
    | _ => False
  | _ => False
def isnilR (kd : NilK) (neg : Bool) (x : AVal) (k : Bool → Prop) : Prop :=
  match kd, x with
  | .sl, .sl n _ _ => ∀ b : Bool, (n ≠ 0 → b = neg) → k b
  | .sl, .ms _ _ _ _ => k neg
  | .map, .mp _ => k neg
  | .map, .lit (.map none) => k (!neg)
  | .fn, .lit .nilFunc => k (!neg)
  | .fn, .fn _ _ _ => k neg
  | _, _ => False
/-- One step in the order of the text. -/
def stepT (P : Program) (E : AE) (s : AStep) (K : AK) (A : ATmps) (μ : AMem) : Prop :=
  match s.guard, s.op with
  | none, .q o => rs (o.sem A μ) fun v => K (put A s.dst v) μ
  | none, .n o => rn (o.sem A) fun blk mk => K (put A s.dst (mk μ.blks.length)) { μ with blks := μ.blks ++ [blk] }
  | none, .e o => re (o.sem A μ) fun v μ' => K (put A s.dst v) μ'
  | none, .isnil kd x neg => isnilR kd neg (aeval A x) fun b => K (put A s.dst (.lit (.bool b))) μ
  | none, o => aCall P o A μ (afterCall s.dst A K E)
  | some (t, want), .q o => rg (gdR want (A t)) fun p => rsG p (o.sem (stripA p A) μ) fun v => K (put A s.dst v) μ
  | some (t, want), .n _ => False
  | some (t, want), .e _ => False
  | some (t, want), .isnil _ _ _ => False
  | some (t, want), o => rg (gdR want (A t)) fun p =>
      (∃ v, Clean μ.blks.length μ.nx v ∧ (p = true → aCall P o (stripA p A) μ (fun o' μ' => o' = .ret v ∧ μ' = μ)) ∧ K (put A s.dst (.opt p v)) μ) ∨
      ((p = true → aCall P o (stripA p A) μ (afterCall s.dst A K E)) ∧ (p = false → K (put A s.dst (.lit undef)) μ))
def stepsT (P : Program) (E : AE) : List AStep → AK → AK
  | [], K => K
  | s :: l, K => stepT P E s (stepsT P E l K)
/-- The temporaries that a step looks at. -/
def rsA (rd : List Nat) (A : ATmps) : ATmps := fun t => if t ∈ rd then A t else .any
abbrev Pend := List (Nat × (AMem → Prop))
def rechk (rc : List Nat) : Pend → AMem → Prop
  | [], _ => True
  | x :: l, μ => (if x.1 ∈ rc then x.2 μ else True) ∧ rechk rc l μ
/-- One step of a region that draws its order, and what must still hold where an effect comes first. -/
def stepD (P : Program) (E : AE) (s : AStep) (K : Pend → AK) (pd : Pend) (A : ATmps) (μ : AMem) : Prop :=
  match s.guard, s.op with
  | none, .q o => rs (o.sem (rsA s.rd A) μ) fun v => K ((s.i, fun μ' => (o.sem (rsA s.rd A) μ').ok ∧ (o.sem (rsA s.rd A) μ').v = v) :: pd) (put A s.dst v) μ
  | none, .n o => rn (o.sem (rsA s.rd A)) fun blk mk => K ((s.i, fun μ' => μ'.blks[μ.blks.length]? = some blk) :: pd) (put A s.dst (mk μ.blks.length)) { μ with blks := μ.blks ++ [blk] }
  | none, .e o => re (o.sem (rsA s.rd A) μ) fun v μ' => rechk s.rc pd μ' ∧ K pd (put A s.dst v) μ'
  | none, .isnil _ _ _ => False
  | none, o => aCall P o (rsA s.rd A) μ fun o' μ' => (μ' = μ ∨ rechk s.rc pd μ') ∧ afterCallD s.dst A (K pd) E o' μ'
  | some (t, want), .q o => rg (gdR want (rsA s.rd A t)) fun p => rsG p (o.sem (stripA p (rsA s.rd A)) μ) fun v =>
      K ((s.i, fun μ' => p = true → (o.sem (stripA p (rsA s.rd A)) μ').ok ∧ .opt p (o.sem (stripA p (rsA s.rd A)) μ').v = v) :: pd) (put A s.dst v) μ
  | some (t, want), .n _ => False
  | some (t, want), .e _ => False
  | some (t, want), .isnil _ _ _ => False
  | some (t, want), o => rg (gdR want (rsA s.rd A t)) fun p =>
      (∃ v, Clean μ.blks.length μ.nx v ∧ (p = true → aCall P o (stripA p (rsA s.rd A)) μ (fun o' μ' => o' = .ret v ∧ μ' = μ)) ∧ K pd (put A s.dst (.opt p v)) μ) ∨
      ((p = true → aCall P o (stripA p (rsA s.rd A)) μ fun o' μ' => (μ' = μ ∨ rechk s.rc pd μ') ∧ afterCallD s.dst A (K pd) E o' μ') ∧ (p = false → K pd (put A s.dst (.opt false (.lit (.bool false)))) μ))
def stepsD (P : Program) (E : AE) (K : AK) : List DStep → Pend → AK
  | [], _ => K
  | .one s :: l, pd => stepD P E s (stepsD P E K l) pd
  | .two s t :: l, pd => fun A μ => stepD P E s (stepD P E t (stepsD P E K l)) pd A μ ∧ stepD P E t (stepD P E s (stepsD P E K l)) pd A μ
/-! ### forgetting -/
/-- The right to append, under new numbers for stamps: ρ tells what stood for each before. -/
def TkW (nx : Nat) (ρ : Nat → Option Nat) : Tk → Tk → Prop
  | _, .no => True
  | .full, .full => True
  | .full, .own s _ => s < nx ∧ ρ s = none
  | .own r e, .own s e' => e = e' ∧ ρ s = some r
  | _, _ => False
mutual
/-- A value, or less. k: the blocks that stay; s: the stamps that keep their numbers. -/
inductive VW (k s nx : Nat) (ρ : Nat → Option Nat) : AVal → AVal → Prop
  | any (v : AVal) : VW k s nx ρ v .any
  | same (v : AVal) : Clean k s v → VW k s nx ρ v v
  | sl (n : Nat) (cs : List AVal) (tk tk' : Tk) : Cleans k s cs → TkW nx ρ tk tk' → VW k s nx ρ (.sl n cs tk) (.sl n cs tk')
  | tup (cs cs' : List AVal) : VWs k s nx ρ cs cs' → VW k s nx ρ (.tup cs) (.tup cs')
  | agg (cs cs' : List AVal) : VWs k s nx ρ cs cs' → VW k s nx ρ (.agg cs) (.agg cs')
  | sl2 (n : Nat) (cs cs' : List AVal) (tk tk' : Tk) : VWs k s nx ρ cs cs' → TkW nx ρ tk tk' → VW k s nx ρ (.sl n cs tk) (.sl n cs' tk')
  | ifc (t : TypeId) (v v' : AVal) : VW k s nx ρ v v' → VW k s nx ρ (.ifc t v) (.ifc t v')
  | opt (b : Bool) (v v' : AVal) : VW k s nx ρ v v' → VW k s nx ρ (.opt b v) (.opt b v')
  | got (v v' : AVal) : VW k s nx ρ v v' → VW k s nx ρ (.opt true v) v'
inductive VWs (k s nx : Nat) (ρ : Nat → Option Nat) : List AVal → List AVal → Prop
  | nil : VWs k s nx ρ [] []
  | cons (c c' : AVal) (cs cs' : List AVal) : VW k s nx ρ c c' → VWs k s nx ρ cs cs' → VWs k s nx ρ (c :: cs) (c' :: cs')
end
/-- Entries of a map, or less. -/
inductive EWs (k s nx : Nat) (ρ : Nat → Option Nat) : List (Value × AVal) → List (Value × AVal) → Prop
  | nil : EWs k s nx ρ [] []
  | cons (x : Value) (v v' : AVal) (l l' : List (Value × AVal)) : VW k s nx ρ v v' → EWs k s nx ρ l l' → EWs k s nx ρ ((x, v) :: l) ((x, v') :: l')
inductive BW (k s nx : Nat) (ρ : Nat → Option Nat) : ABlk → ABlk → Prop
  | dead (b : ABlk) : BW k s nx ρ b .dead
  | same (b : ABlk) : CleanB k s b → BW k s nx ρ b b
  | cells (t : TypeId) (cs cs' : List AVal) : VWs k s nx ρ cs cs' → BW k s nx ρ (.cells t cs) (.cells t cs')
  | row (t : TypeId) (cs cs' : List AVal) : VWs k s nx ρ cs cs' → BW k s nx ρ (.row t cs) (.row t cs')
  | map (kk : KeyK) (es es' : List (Value × AVal)) : EWs k s nx ρ es es' → BW k s nx ρ (.map kk es) (.map kk es')
inductive BWs (k s nx : Nat) (ρ : Nat → Option Nat) : List ABlk → List ABlk → Prop
  | nil (l : List ABlk) : BWs k s nx ρ l []
  | cons (b b' : ABlk) (l l' : List ABlk) : BW k s nx ρ b b' → BWs k s nx ρ l l' → BWs k s nx ρ (b :: l) (b' :: l')
/-- Memory, or less. -/
structure MW (k0 s0 : Nat) (ρ : Nat → Option Nat) (μ μ' : AMem) : Prop where
  k : k0 ≤ μ'.blks.length
  s : s0 ≤ μ'.nx
  blks : BWs μ'.blks.length s0 μ'.nx ρ μ.blks μ'.blks
  id : ∀ r, r < s0 → ρ r = some r
  top : ∀ r, μ'.nx ≤ r → ρ r = none
  lt : ∀ r, r ∈ μ'.lv → r < μ'.nx
  lv : ∀ r q, r ∈ μ'.lv → ρ r = some q → q ∈ μ.lv
  inj : ∀ r r' q, r ∈ μ'.lv → r' ∈ μ'.lv → ρ r = some q → ρ r' = some q → r = r'
  nd : μ'.lv.Nodup
  gl : μ'.gl = μ.gl
  df : μ'.df = μ.df
  dc : ∀ d, d ∈ μ.df → CleanD μ'.blks.length s0 d
structure Base where
  k : Nat
  s : Nat
  r : Option Nat
/-- A state, or less. -/
def Wk (b : Base) (A : ATmps) (μ : AMem) (A' : ATmps) (μ' : AMem) : Prop :=
  ∃ ρ, MW b.k b.s ρ μ μ' ∧ ∀ t, VW μ'.blks.length b.s μ'.nx ρ (A t) (A' t)
/-- A loop of at most so many rounds. -/
def rounds (step : AK → AK) : Nat → AK
  | 0 => fun _ _ => False
  | k + 1 => step (rounds step k)
/-- What is known of the codes of a loop's rounds. -/
def isNorm (P : Program) (N : Nat) (a b : ACode) (ra rb : Code) : Prop := ∃ mu, norm P N mu ra = some a ∧ norm P N mu rb = some b
def loop0 (P : Program) (N : Nat) (ps : List Nat) (a b : ACode) (A : ATmps) : ALoop := { st := .ready, pend := none, n := N, tmps := A, ps := ps, is := isNorm P N a b }
/-- Entering a range over a function; r: the record of the round that one is in. -/
def entered (r : Option Nat) (L : ALoop) (μ : AMem) : AMem :=
  match r with
  | some _ => { μ with blks := μ.blks ++ [.loop L] }
  | none => { μ with blks := μ.blks ++ [.dfr] ++ [.loop L], df := .mark μ.blks.length :: μ.df }
def enteredAt (r : Option Nat) (μ : AMem) : Nat :=
  match r with
  | some _ => μ.blks.length
  | none => μ.blks.length + 1
def inLoop (μ : AMem) : Option Nat → Prop
  | none => True
  | some id => ∃ L, μ.blks[id]? = some (.loop L)
def jumpE (K : AK) (E : AE) : Option AJump → AK
  | none => K
  | some .ret => E .ret
  | some (.exit j) => E (.exit j)
  | some (.goto l) => E (.goto l)
def afterRange (l : Nat) (A : ATmps) (K : AK) (E : AE) : AOut → AMem → Prop
  | .ret _, μ => ∃ L, μ.blks[l]? = some (.loop L) ∧ L.st ≠ .busy ∧ jumpE K E L.pend A { μ with blks := μ.blks.set l .dead }
  | .panic v, μ => E (.panic v) A μ
def aRange (P : Program) (r : Option Nat) (N : Nat) (x : AVal) (ps : List Nat) (a b : ACode) (K : AK) (E : AE) (A : ATmps) (μ : AMem) : Prop :=
  match x with
  | .fn (.func f) fs cs => inLoop μ r ∧ calls P f (fs ++ [.yld (enteredAt r μ)] ++ cs) (entered r (loop0 P N ps a b A) μ) (afterRange (enteredAt r μ) A K E)
  | _ => False
def aDefer (P : Program) (r : Option Nat) (x : AVal) (args : List AVal) (μ : AMem) (k : AMem → Prop) : Prop :=
  match x with
  | .fn (.func f) fs cs => (r = none ∧ callable P f = true) ∧ k { μ with df := .fn f (fs ++ args ++ cs) :: μ.df }
  | _ => False
def awp (P : Program) (b : Base) : ACode → AK → AE → AK
  | .skip, K, _ => K
  | .region l, K, E => stepsT P E l K
  | .draw l, K, E => stepsD P (hideE (dstsD l) E) K l []
  | .seq x y, K, E => awp P b x (awp P b y K E) E
  | .cond c x y, K, E => fun A μ => cnd (aeval A c) fun t => (t = true → awp P b x K E A μ) ∧ (t = false → awp P b y K E A μ)
  | .block id c, K, E => awp P b c K (fun e A μ => match e with
    | .exit j => if j = id then K A μ else E (.exit j) A μ
    | e => E e A μ)
  | .loop c, K, E => fun A μ => (∃ k, rounds (fun K' => awp P b c K' E) k A μ) ∨ ∃ (α : Type) (ok : α → Prop) (I : α → ATmps × AMem) (m : α → Nat) (x0 : α), ok x0 ∧ Wk b A μ (I x0).1 (I x0).2 ∧
      ∀ x, ok x → awp P b c (fun A' μ' => ∃ y, ok y ∧ m y < m x ∧ Wk b A' μ' (I y).1 (I y).2) E (I x).1 (I x).2
  | .exit id, _, E => E (.exit id)
  | .scope c, K, E => awp P b c K (fun e A μ => match e with
    | .goto _ => False
    | e => E e A μ)
  | .label _, K, _ => K
  | .goto l, _, E => E (.goto l)
  | .ret, _, E => E .ret
  | .rangeF N g ps x y, K, E => fun A μ => aRange P b.r N (aeval A g) ps x y K E A μ
  | .deferR l x args, K, E => stepsT P E l fun A μ => aDefer P b.r (aeval A x) (args.map (aeval A)) μ fun μ' => K A μ'
end Go.Proofs.YtjleeecaebgblaaGreatDoor.AL
namespace Go.Proofs.YtjleeecaebgblaaGreatDoor.AL.K
open Go Go.Proofs.YtjleeecaebgblaaGreatDoor.AL
def q (i d : Nat) (o : QOp) : AStep := ⟨i, some d, none, .q o, [], []⟩
def qg (i d t : Nat) (w : Bool) (o : QOp) : AStep := ⟨i, some d, some (t, w), .q o, [], []⟩
def qd (i d : Nat) (o : QOp) (rd rc : List Nat) : AStep := ⟨i, some d, none, .q o, rd, rc⟩
def T (t : Nat) : Operand := .tmp t
def I (n : Nat) : Operand := .const (.int .i64 (.ofNat n))
def mv (t : Nat) : QOp := .move (.tmp t)
end Go.Proofs.YtjleeecaebgblaaGreatDoor.AL.K
namespace Go.Proofs.YtjleeecaebgblaaGreatDoor.AL
open Go.RowKit
variable {k s : Nat}
theorem Cleans.get {cs : List AVal} (h : Cleans k s cs) {i : Nat} {c : AVal} (hi : cs[i]? = some c) : Clean k s c := Cleans_iff.1 h c (List.mem_of_getElem? hi)
theorem Cleans.getD {cs : List AVal} (h : Cleans k s cs) (i : Nat) : Clean k s (cs.getD i .any) := by
  rw [List.getD_eq_getElem?_getD]
  cases hi : cs[i]? with
  | none => simp [Clean]
  | some c => exact h.get hi
theorem Cleans.append {as bs : List AVal} (h : Cleans k s as) (h' : Cleans k s bs) : Cleans k s (as ++ bs) :=
  Cleans_iff.2 fun c hc => (List.mem_append.1 hc).elim (Cleans_iff.1 h c) (Cleans_iff.1 h' c)
theorem Cleans.take {as : List AVal} (h : Cleans k s as) (n : Nat) : Cleans k s (as.take n) := Cleans_iff.2 fun c hc => Cleans_iff.1 h c (List.mem_of_mem_take hc)
theorem Cleans.drop {as : List AVal} (h : Cleans k s as) (n : Nat) : Cleans k s (as.drop n) := Cleans_iff.2 fun c hc => Cleans_iff.1 h c (List.mem_of_mem_drop hc)
theorem Cleans.map {α : Type} {f : α → AVal} (l : List α) (h : ∀ x, x ∈ l → Clean k s (f x)) : Cleans k s (l.map f) :=
  Cleans_iff.2 fun c hc => by obtain ⟨x, hx, rfl⟩ := List.mem_map.1 hc; exact h x hx
theorem Cleans.setAt {as vs : List AVal} (h : Cleans k s as) (h' : Cleans k s vs) (n : Nat) : Cleans k s (setAt as n vs) := ((h.take n).append h').append (h.drop _)
theorem Cleans.zeros {zs : List AVal} (h : Cleans k s zs) (n : Nat) : Cleans k s (zeros n zs) := by
  refine Cleans_iff.2 fun c hc => ?_
  simp only [AL.zeros, List.mem_flatten, List.mem_replicate] at hc
  obtain ⟨l, ⟨_, rfl⟩, hc⟩ := hc
  exact Cleans_iff.1 h c hc
theorem Clean_ofCell (v : Value) : Clean k s (ofCell v) := by unfold ofCell; split <;> simp [Clean, Cleans]
theorem Clean_ofConst (v : Value) : Clean k s (ofConst v) := by
  unfold ofConst
  split
  · simp only [Clean]; exact Cleans.map _ fun x _ => Clean_ofCell x
  · exact Clean_ofCell v
def CleanA (k s : Nat) (A : ATmps) : Prop := ∀ t, Clean k s (A t)
theorem CleanA.eval {A : ATmps} (h : CleanA k s A) (x : Operand) : Clean k s (aeval A x) := by
  cases x with
  | tmp t => exact h t
  | const v => exact Clean_ofConst v
  | «global» g => simp [aeval, Clean]
  | func f => simp [aeval, Clean, Cleans]
theorem Clean_guardV {p : Bool} {v : AVal} (h : Clean k s v) : Clean k s (guardV p v) := by
  cases v <;> simp only [guardV] <;> try exact h
  rename_i b v
  cases (!p || b)
  · simp [Clean]
  · simpa [Clean] using h
theorem CleanA.strip {A : ATmps} (h : CleanA k s A) (p : Bool) : CleanA k s (stripA p A) := fun t => Clean_guardV (h t)
theorem CleanA.rs {A : ATmps} (h : CleanA k s A) (rd : List Nat) : CleanA k s (rsA rd A) := fun t => by
  unfold rsA; split
  · exact h t
  · simp [Clean]
theorem CleanA.put {A : ATmps} (h : CleanA k s A) (d : Option Nat) {v : AVal} (hv : Clean k s v) : CleanA k s (put A d v) := fun t => by
  cases d with
  | none => exact h t
  | some d => simp only [AL.put]; split <;> first | exact hv | exact h t
theorem CleanA.mono {A : ATmps} {k' s' : Nat} (h : CleanA k s A) (hk : k ≤ k') (hs : s ≤ s') : CleanA k' s' A := fun t => Clean.mono hk hs _ (h t)
theorem CleanA.evals {A : ATmps} (h : CleanA k s A) (l : List Operand) : Cleans k s (l.map (aeval A)) := Cleans.map l fun x _ => h.eval x
theorem WFm.get {μ : AMem} (h : WFm μ) {i : Nat} {b : ABlk} (hi : μ.blks[i]? = some b) : CleanB μ.blks.length μ.nx b := h.blk b (List.mem_of_getElem? hi)
theorem Clean_Rs_of {o : Option AVal} (h : ∀ v, o = some v → Clean k s v) : Clean k s (Rs.of o).v := by
  cases o with
  | none => simp [Rs.of, Clean]
  | some v => exact h v rfl
theorem Clean_partR {K : Option Nat} {cs : List AVal} {off : Nat} (h : Cleans k s cs) : Clean k s (partR K cs off).v := by
  cases K with
  | none => exact h.getD _
  | some n => simp only [partR, Clean]; exact (h.drop _).take _
theorem Cleans_deref {μ : AMem} (hm : WFm μ) {x : AVal} (h : Clean μ.blks.length μ.nx x) : Cleans μ.blks.length μ.nx (derefS μ x).cs := by
  unfold derefS
  split
  · split
    · rename_i hb
      exact Cleans.drop (hm.get hb) _
    · rename_i hb
      exact Cleans.drop (hm.get hb) _
    · simp [Cleans]
  · simpa [Clean] using h
  · split
    · rename_i hb
      exact Cleans.drop (Cleans.mono (Nat.zero_le _) (Nat.zero_le _) _ (hm.gl _ _ hb)) _
    · simp [Cleans]
  · simp [Cleans]
theorem Clean_loadR {K : Option Nat} {d : Ds} (h : Cleans k s d.cs) : Clean k s (loadR K d).v := by
  cases K with
  | none => exact h.getD _
  | some n => simp only [loadR, Clean]; exact h.take _
theorem Clean_shiftR {n : Nat} {x : AVal} (h : Clean k s x) : Clean k s (shiftR n x).v := by
  cases x <;> simp only [shiftR] <;> first | (simp [Clean]; done) | (simpa [Clean] using h) | (simp only [Clean] at h ⊢; exact h.drop _)
theorem Clean_binR {op : BinOp} {e : EqK} {c : Bool} {x y : AVal} : Clean k s (binR op e c x y).v := by
  unfold binR
  split
  · split <;> simp [Clean]
  · simp [Clean]
  · split <;> simp [Clean]
theorem Clean_mfind (key : Value) : ∀ {es : List (Value × AVal)}, Cleans k s (es.map (·.2)) → ∀ v, mfind key es = some v → Clean k s v
  | [], _, v, h => by simp [mfind] at h
  | e :: es, hc, v, h => by
    simp only [List.map_cons, Cleans] at hc
    simp only [mfind] at h
    split at h
    · cases h; exact hc.1
    · exact Clean_mfind key hc.2 v h
theorem Cleans_mput (key : Value) {v : AVal} (hv : Clean k s v) : ∀ {es : List (Value × AVal)}, Cleans k s (es.map (·.2)) → Cleans k s ((mput key v es).map (·.2))
  | [], _ => by simp [mput, Cleans, hv]
  | e :: es, hc => by
    simp only [List.map_cons, Cleans] at hc
    simp only [mput]
    split
    · simp only [List.map_cons, Cleans]; exact ⟨hv, hc.2⟩
    · simp only [List.map_cons, Cleans]; exact ⟨hc.1, Cleans_mput key hv hc.2⟩
theorem Clean_lookR {z : AVal} {ok : Bool} {o : Option AVal} (hz : Clean k s z) (ho : ∀ v, o = some v → Clean k s v) : Clean k s (lookR z ok o) := by
  cases o with
  | none => cases ok <;> simp [lookR, Clean, Cleans, hz]
  | some v => cases ok <;> simp [lookR, Clean, Cleans, ho v rfl]
theorem Clean_mgetR {μ : AMem} (hm : WFm μ) {kk : KeyK} {key : Value} {x : AVal} : ∀ v, (mgetR μ kk key x).o = some v → Clean μ.blks.length μ.nx v := by
  intro v h
  unfold mgetR at h
  split at h
  · split at h
    · rename_i hb
      exact Clean_mfind key (hm.get hb) v h
    · cases h
  · cases h
  · cases h
theorem Cleans_vcells {v : AVal} {cs : List AVal} (h : vcells v = some cs) (hv : Clean k s v) : Cleans k s cs := by
  cases v <;> simp only [vcells] at h <;> try (cases h; done)
  all_goals first
    | (cases h; simpa [Clean, Cleans] using hv)
    | (split at h <;> cases h; simp [Clean, Cleans])
theorem Cleans_aFill {place : Nat → Option (Nat × Nat)} : ∀ (ps : List (Nat × AVal)) {cs out : List AVal}, aFill place cs ps = some out → Cleans k s cs → (∀ p, p ∈ ps → Clean k s p.2) → Cleans k s out
  | [], cs, out, h, hc, _ => by simp only [aFill] at h; cases h; exact hc
  | (i, v) :: ps, cs, out, h, hc, hp => by
    simp only [aFill] at h
    split at h <;> try (cases h; done)
    rename_i off n vs h1 h2
    split at h <;> try (cases h; done)
    exact Cleans_aFill ps h (hc.setAt (Cleans_vcells h2 (hp (i, v) (by simp))) _) fun p hp' => hp p (by simp [hp'])
theorem Cleans_aSeq {sz : Nat} : ∀ (ps : List (Nat × AVal)) {i : Nat} {out : List AVal}, aSeq sz i ps = some out → (∀ p, p ∈ ps → Clean k s p.2) → Cleans k s out
  | [], i, out, h, _ => by simp only [aSeq] at h; cases h; simp [Cleans]
  | (j, v) :: ps, i, out, h, hp => by
    simp only [aSeq] at h
    split at h <;> try (cases h; done)
    rename_i cs l h1 h2
    split at h <;> cases h
    exact (Cleans_vcells h1 (hp (j, v) (by simp))).append (Cleans_aSeq ps h2 fun p hp' => hp p (by simp [hp']))
theorem Clean_aFoldR {f : Int → Int → Int} {kd : IntKind} : ∀ (xs : List AVal) (m : Int) (v : AVal), aFoldR f kd m xs = some v → Clean k s v
  | [], m, v, h => by simp only [aFoldR] at h; cases h; simp [Clean]
  | x :: xs, m, v, h => by
    unfold aFoldR at h
    split at h
    · rename_i heq; cases heq
    · rename_i heq; cases heq; exact Clean_aFoldR _ _ v h
    · cases h
theorem Clean_aFold {f : Int → Int → Int} {xs : List AVal} {v : AVal} (h : aFold f xs = some v) : Clean k s v := by
  unfold aFold at h
  split at h
  · exact Clean_aFoldR _ _ _ h
  · cases h
/-- The constants within an operation. -/
def QOp.closed : QOp → Prop
  | .lookup _ z _ _ _ | .assert z _ _ _ => Clean 0 0 z
  | .build _ z _ => Cleans 0 0 z
  | _ => True
theorem Clean_zeroA {P : Program} {t : TypeId} {z : AVal} (h : zeroA P t = some z) : Clean k s z := by
  unfold zeroA at h
  split at h <;> try (cases h; done)
  obtain ⟨c, _, rfl⟩ := Option.map_eq_some_iff.1 h
  exact Clean_ofConst c
theorem resQ_closed {P : Program} {o : Op} {q : QOp} (h : resQ P o = some q) : q.closed := by
  unfold resQ at h
  split at h
  all_goals try (cases h; trivial)
  all_goals try (obtain ⟨x, hx, rfl⟩ := Option.map_eq_some_iff.1 h; trivial)
  · split at h <;> cases h <;> trivial
  · split at h <;> cases h; trivial
  · split at h <;> try (cases h; done)
    obtain ⟨x, hx, rfl⟩ := Option.map_eq_some_iff.1 h; trivial
  · split at h
    · cases h; trivial
    · obtain ⟨x, hx, rfl⟩ := Option.map_eq_some_iff.1 h; trivial
    · cases h
  · split at h <;> try (cases h; done)
    obtain ⟨x, hx, rfl⟩ := Option.map_eq_some_iff.1 h
    exact Clean_zeroA hx
  · split at h <;> try (cases h; done)
    obtain ⟨x, hx, rfl⟩ := Option.map_eq_some_iff.1 h
    exact Clean_zeroA hx
  · obtain ⟨x, hx, rfl⟩ := Option.map_eq_some_iff.1 h
    unfold buildInfo at hx
    split at hx <;> try (cases hx; done)
    · rename_i hz
      split at hx <;> cases hx
      rename_i hv
      exact Cleans_vcells hv (Clean_zeroA hz)
    · rename_i hz
      split at hx <;> cases hx
      rename_i hv
      exact Cleans_vcells hv (Clean_zeroA hz)
  · split at h <;> try (cases h; done)
    split at h <;> cases h
    trivial
  · split at h
    · cases h; trivial
    · obtain ⟨x, hx, rfl⟩ := Option.map_eq_some_iff.1 h; trivial
  · cases h
theorem Clean_partsA {A : ATmps} (h : CleanA k s A) (ps : List (Nat × Operand)) : ∀ p, p ∈ partsA A ps → Clean k s p.2 := by
  intro p hp
  simp only [partsA, List.mem_map] at hp
  obtain ⟨x, _, rfl⟩ := hp
  exact h.eval _
theorem Clean_Q {μ : AMem} (hm : WFm μ) {A : ATmps} (h : CleanA μ.blks.length μ.nx A) {q : QOp} (hq : q.closed) : Clean μ.blks.length μ.nx (q.sem A μ).v := by
  cases q <;> simp only [QOp.sem]
  case move x => exact h.eval x
  case pick c a b =>
    unfold pickR; split
    · split <;> simp [Clean]
    · simp [Clean]
  case load K x => exact Clean_loadR (Cleans_deref hm (h.eval x))
  case idx x c => unfold idxR; split <;> simp [Clean]
  case ext k x c => cases k <;> simp only [extR] <;> split <;> simp [Clean]
  case nilc x => unfold nilcR; split <;> first | exact h.eval x | simp [Clean]
  case bin => exact Clean_binR
  case un => unfold unR; split <;> simp [Clean]
  case conv c x =>
    cases c <;> simp only [QOp.sem]
    case tob =>
      unfold tobR; split
      · simp only [Clean, aBytes]; exact ⟨Cleans.map _ fun _ _ => by simp [Clean], trivial⟩
      · simp [Clean]
    case bstr =>
      unfold bstrR; split
      · split <;> simp [Clean]
      · unfold convR; split <;> simp [Clean]
    all_goals (unfold convR; split <;> simp [Clean])
  case iface t x => simp only [Clean]; exact h.eval x
  case func f fs cs => simp only [Clean]; exact ⟨h.evals fs, h.evals cs⟩
  case slice r x lo hi mx =>
    have hx := h.eval x
    unfold sliceR
    split
    · simp [Clean]
    · rename_i e
      rw [e] at hx
      simp only [Clean] at hx ⊢
      refine ⟨(hx.1.drop _).take _, ?_⟩
      rename_i tk
      cases tk <;> simp only <;> first | trivial | (split <;> rename_i heq <;> first | trivial | (split at heq <;> cases heq))
    · rename_i e
      rw [e] at hx
      simp only [Clean] at hx ⊢
      refine ⟨(hx.1.drop _).take _, ?_⟩
      split <;> rename_i heq <;> first | trivial | skip
      split at heq <;> cases heq
    · rename_i e
      rw [e] at hx
      simp only [Clean] at hx
      rename_i tk
      split
      · simp [Clean, Cleans]
      · simp only [Clean]; exact hx
    · rename_i e
      rw [e] at hx
      simp only [Clean] at hx
      split
      · simp only [Clean, Cleans, true_and]
        split <;> rename_i heq <;> first | trivial | (split at heq <;> cases heq)
      · simp only [Clean]; exact hx
    · rename_i e
      rw [e] at hx
      simpa [Clean] using hx
    · simp [Clean]
  case faddr off x => exact Clean_shiftR (h.eval x)
  case field off K x =>
    have hx := h.eval x
    unfold fieldR
    split
    · rename_i e
      rw [e] at hx
      exact Clean_partR (by simpa [Clean] using hx)
    · simp [Clean]
  case iaddr r x i =>
    have hx := h.eval x
    unfold indexAddrR
    split
    · rename_i e _
      rw [e] at hx
      simp only [Clean] at hx ⊢; exact hx.1.drop _
    · rename_i e _
      rw [e] at hx
      simpa [Clean] using hx
    · exact Clean_shiftR hx
    · simp [Clean]
  case index r K x i =>
    have hx := h.eval x
    unfold indexR
    split
    · simp [Clean]
    · rename_i e _
      rw [e] at hx
      exact Clean_partR (by simpa [Clean] using hx)
    · simp [Clean]
  case lookup kk z x key ok =>
    unfold lookupR
    split
    · exact Clean_lookR (Clean.mono (Nat.zero_le _) (Nat.zero_le _) _ hq) (Clean_mgetR hm)
    · simp [Clean]
  case assert z t ok x =>
    have hx := h.eval x
    have hz : Clean μ.blks.length μ.nx z := Clean.mono (Nat.zero_le _) (Nat.zero_le _) _ hq
    unfold assertR
    split
    · rename_i e
      rw [e] at hx
      simp only [Clean] at hx
      simp only
      split <;> simp [Clean, Cleans, hx, hz]
    · rename_i e
      rw [e] at hx
      simpa [Clean] using hx
    · simp [Clean, Cleans, hz]
    · simp [Clean]
  case extract x i =>
    have hx := h.eval x
    unfold extractR
    split
    · rename_i e
      rw [e] at hx
      simp only [Clean] at hx
      exact hx.getD i
    · simp [Clean]
  case len l x => unfold lenR; split <;> first | (simp [Clean]; done) | (split <;> simp [Clean])
  case max xs => exact Clean_Rs_of fun v hv => Clean_aFold hv
  case min xs => exact Clean_Rs_of fun v hv => Clean_aFold hv
  case build pl z ps =>
    unfold buildR
    split
    · rename_i hf
      simp only [Clean]
      exact Cleans_aFill _ hf (Cleans.mono (Nat.zero_le _) (Nat.zero_le _) _ hq) (Clean_partsA h ps)
    · simp [Clean]
  case bslice sz n ps =>
    unfold bsliceR
    split
    · rename_i hf
      simp only [Clean]
      exact ⟨Cleans_aSeq _ hf (Clean_partsA h ps), trivial⟩
    · simp [Clean]
/-! ### operations that make or change memory -/
theorem Cleans_vcellsR {v : AVal} (hv : Clean k s v) : Cleans k s (vcellsR v).cs := by
  cases v <;> simp only [vcellsR] <;> simpa [Clean, Cleans] using hv
def NOp.closed : NOp → Prop
  | .alloc _ zs | .make _ _ zs _ _ => Cleans 0 0 zs
  | _ => True
theorem resN_closed {P : Program} {mu : Bool} {o : Op} {q : NOp} (h : resN P mu o = some q) : q.closed := by
  unfold resN at h
  split at h
  · split at h <;> try (cases h; done)
    rename_i hz
    obtain ⟨zs, hzs, rfl⟩ := Option.map_eq_some_iff.1 h
    exact Cleans_vcells hzs (Clean_zeroA hz)
  · cases h; trivial
  · split at h <;> cases h; trivial
  · split at h <;> try (cases h; done)
    split at h <;> try (cases h; done)
    rename_i hz
    split at h <;> try (cases h; done)
    rename_i hzs
    split at h <;> cases h
    exact Cleans_vcells hzs (Clean_zeroA hz)
  · split at h <;> try (cases h; done)
    split at h <;> try (cases h; done)
    split at h <;> cases h
    trivial
  · cases h
theorem Clean_N {A : ATmps} (h : CleanA k s A) {q : NOp} (hq : q.closed) : CleanB k s (q.sem A).blk ∧ ∀ id, id < k → Clean k s ((q.sem A).v id) := by
  cases q <;> simp only [NOp.sem]
  case alloc t zs => exact ⟨Cleans.mono (Nat.zero_le _) (Nat.zero_le _) _ hq, fun id hid => by simpa [Clean] using hid⟩
  case box t x => exact ⟨Cleans_vcellsR (h.eval x), fun id hid => by simpa [Clean] using hid⟩
  case makeMap kk => exact ⟨by simp [CleanB, Cleans], fun id hid => by simpa [Clean] using hid⟩
  case make e b zs l c =>
    split
    · exact ⟨(Cleans.mono (Nat.zero_le _) (Nat.zero_le _) _ hq : Cleans k s zs).zeros _, fun id hid => by simpa [Clean] using hid⟩
    · exact ⟨trivial, fun id _ => by simp [Clean]⟩
  case bslice e sz n ps =>
    split
    · rename_i cs hcs
      exact ⟨Cleans_aSeq _ hcs (Clean_partsA h ps), fun id hid => by simpa [Clean] using hid⟩
    · exact ⟨trivial, fun id _ => by simp [Clean]⟩
theorem WFm.snoc {μ : AMem} (h : WFm μ) {b : ABlk} (hb : CleanB (μ.blks.length + 1) μ.nx b) : WFm { μ with blks := μ.blks ++ [b] } := by
  refine ⟨fun c hc => ?_, h.gl, fun d hd => by simp only [List.length_append, List.length_singleton]; exact CleanD.mono (Nat.le_succ _) (Nat.le_refl _) (h.df d hd)⟩
  simp only [List.length_append, List.length_singleton]
  rcases List.mem_append.1 hc with hc | hc
  · exact CleanB.mono (Nat.le_succ _) (Nat.le_refl _) (h.blk c hc)
  · simp only [List.mem_singleton] at hc; subst hc; exact hb
theorem WFm.set {μ : AMem} (h : WFm μ) (i : Nat) {b : ABlk} (hb : CleanB μ.blks.length μ.nx b) : WFm { μ with blks := μ.blks.set i b } := by
  refine ⟨fun c hc => ?_, h.gl, fun d hd => by simp only [List.length_set]; exact h.df d hd⟩
  simp only [List.length_set]
  rcases List.mem_or_eq_of_mem_set hc with hc | rfl
  · exact h.blk c hc
  · exact hb
theorem WFm.nxt {μ : AMem} (h : WFm μ) (lv : List Nat) : WFm { μ with lv := lv, nx := μ.nx + 1 } := ⟨fun c hc => CleanB.mono (Nat.le_refl _) (Nat.le_succ _) (h.blk c hc), h.gl, fun d hd => CleanD.mono (Nat.le_refl _) (Nat.le_succ _) (h.df d hd)⟩
theorem Cleans_asrc {μ : AMem} (hm : WFm μ) {sz : Nat} {x : AVal} (hy : Clean μ.blks.length μ.nx x) {m : Nat} {ds : List AVal} (hs : asrc μ sz x = some (m, ds)) : Cleans μ.blks.length μ.nx ds := by
  unfold asrc at hs
  split at hs
  · cases hs; simp only [Clean] at hy; exact hy.1
  · cases hs; exact Cleans.map _ fun _ _ => by simp [Clean]
  · split at hs
    · rename_i cs hcs
      split at hs <;> cases hs
      unfold rowCs at hcs
      split at hcs <;> cases hcs
      · rename_i hb; exact (Cleans.drop (hm.get hb) _).take _
      · rename_i hb; exact (Cleans.drop (hm.get hb) _).take _
    · cases hs
  · cases hs
theorem resE_closed {P : Program} {mu : Bool} {o : Op} {q : EOp} (h : resE P mu o = some q) : q.closed := by
  unfold resE at h
  split at h
  · split at h <;> cases h; trivial
  · split at h <;> cases h; trivial
  · split at h <;> cases h; trivial
  · split at h <;> cases h; split <;> trivial
  · split at h
    · obtain ⟨z, hz, rfl⟩ := Option.map_eq_some_iff.1 h
      exact Clean_zeroA hz
    · cases h
  · cases h; trivial
  · split at h <;> try (cases h; done)
    split at h <;> try (cases h; done)
    rename_i hz
    obtain ⟨zs, hzs, rfl⟩ := Option.map_eq_some_iff.1 h
    exact Cleans_vcells hzs (Clean_zeroA hz)
  · split at h <;> try (cases h; done)
    split at h <;> cases h
    trivial
  · cases h
theorem WFm.nxt' {μ : AMem} (h : WFm μ) : WFm { μ with nx := μ.nx + 1 } := ⟨fun c hc => CleanB.mono (Nat.le_refl _) (Nat.le_succ _) (h.blk c hc), h.gl, fun d hd => CleanD.mono (Nat.le_refl _) (Nat.le_succ _) (h.df d hd)⟩
theorem Clean_E {μ : AMem} (hm : WFm μ) {A : ATmps} (h : CleanA μ.blks.length μ.nx A) {q : EOp} (hq : q.closed) (hok : (q.sem A μ).ok) :
    let r := q.sem A μ
    Clean r.μ.blks.length r.μ.nx r.v ∧ WFm r.μ ∧ μ.blks.length ≤ r.μ.blks.length ∧ μ.nx ≤ r.μ.nx := by
  intro r
  cases q
  case store n x v =>
    have hr : r = storeR n μ (aeval A x) (aeval A v) := rfl
    simp only [EOp.sem] at hok
    rw [hr]
    unfold storeR at hok ⊢
    split
    · split
      · rename_i hb
        refine ⟨by simp [Clean], hm.set _ ?_, by simp, Nat.le_refl _⟩
        exact Cleans.setAt (hm.get hb) (Cleans_vcellsR (h.eval v)) _
      · rename_i hb
        refine ⟨by simp [Clean], hm.set _ ?_, by simp, Nat.le_refl _⟩
        exact Cleans.setAt (hm.get hb) (Cleans_vcellsR (h.eval v)) _
      · exact ⟨by simp [Clean], hm, Nat.le_refl _, Nat.le_refl _⟩
    · exact ⟨by simp [Clean], hm, Nat.le_refl _, Nat.le_refl _⟩
  case mapPut kk m key v =>
    have hr : r = mapPutR kk μ (aeval A m) (aeval A key) (aeval A v) := rfl
    rw [hr]
    unfold mapPutR
    split
    · split
      · rename_i hb
        refine ⟨by simp [Clean], hm.set _ ?_, by simp, Nat.le_refl _⟩
        exact Cleans_mput _ (h.eval v) (hm.get hb)
      · exact ⟨by simp [Clean], hm, Nat.le_refl _, Nat.le_refl _⟩
    · exact ⟨by simp [Clean], hm, Nat.le_refl _, Nat.le_refl _⟩
  case append e sz by' x y =>
    have hr : r = appendR e sz by' μ (aeval A x) (aeval A y) := rfl
    rw [hr]
    have hx := h.eval x
    have hy := h.eval y
    unfold appendR
    split
    · rename_i hxe
      rw [hxe] at hx
      simp only [Clean] at hx
      split
      · rename_i m ds hs
        have hds : Cleans μ.blks.length μ.nx ds := by
          exact Cleans_asrc hm hy hs
        refine ⟨?_, hm.nxt _, Nat.le_refl _, Nat.le_succ _⟩
        simp only [Clean]
        exact ⟨Cleans.mono (Nat.le_refl _) (Nat.le_succ _) _ (hx.1.append hds), Nat.lt_succ_self _⟩
      · exact ⟨by simp [Clean], hm, Nat.le_refl _, Nat.le_refl _⟩
    · exact ⟨by simp [Clean], hm, Nat.le_refl _, Nat.le_refl _⟩
  case appendM e sz by' x y =>
    have hr : r = appendMR e sz by' μ (aeval A x) (aeval A y) := rfl
    rw [hr]
    have hx := h.eval x
    have hy := h.eval y
    have none : ∀ {p : Prop}, Clean (Re.mk p .any μ).μ.blks.length (Re.mk p .any μ).μ.nx (Re.mk p .any μ).v ∧ WFm (Re.mk p .any μ).μ ∧ μ.blks.length ≤ (Re.mk p .any μ).μ.blks.length ∧ μ.nx ≤ (Re.mk p .any μ).μ.nx :=
      ⟨by simp [Clean], hm, Nat.le_refl _, Nat.le_refl _⟩
    unfold appendMR
    split
    · rename_i n cs m ds hsv hxv
      have hcs := Cleans_asrc hm hx hsv
      have hds := Cleans_asrc hm hy hxv
      split
      · split
        · exact ⟨hx, hm, Nat.le_refl _, Nat.le_refl _⟩
        · exact ⟨by simp [Clean], hm.snoc (Cleans.mono (Nat.le_succ _) (Nat.le_refl _) _ (hcs.append hds)), by simp, Nat.le_refl _⟩
      · split
        · rename_i id nn _
          split
          · rename_i hb
            have h1 : WFm { μ with blks := μ.blks.set id .dead } := hm.set id trivial
            refine ⟨by simp [Clean], ?_, by simp, Nat.le_refl _⟩
            refine h1.snoc ?_
            simp only [List.length_set]
            exact Cleans.mono (Nat.le_succ _) (Nat.le_refl _) _ (Cleans.append (hm.get hb) hds)
          · exact none
        · exact none
    · exact none
  case mapEntry kk z m key =>
    have hr : r = mapEntryR kk z μ (aeval A m) (aeval A key) := rfl
    rw [hr]
    unfold mapEntryR
    split
    · split
      · rename_i kv _ _ _ kk' es hb
        have hz : Clean μ.blks.length μ.nx ((mfind kv es).getD z) := by
          cases hf : mfind kv es with
          | none => exact Clean.mono (Nat.zero_le _) (Nat.zero_le _) _ hq
          | some v => exact Clean_mfind kv (hm.get hb) v hf
        have hes : Cleans μ.blks.length μ.nx (es.map (·.2)) := hm.get hb
        refine ⟨?_, ?_, by simp, Nat.le_succ _⟩
        · simp only [Clean, Cleans, List.length_set]
          exact ⟨Clean.mono (Nat.le_refl _) (Nat.le_succ _) _ hz, Nat.lt_succ_self _, trivial⟩
        · refine hm.nxt'.set _ ⟨Cleans.mono (Nat.le_refl _) (Nat.le_succ _) _ (Cleans_mput kv hz hes), Nat.lt_succ_self _⟩
      · exact ⟨by simp [Clean], hm, Nat.le_refl _, Nat.le_refl _⟩
    · exact ⟨by simp [Clean], hm, Nat.le_refl _, Nat.le_refl _⟩
  case entry m s v =>
    have hr : r = entryR μ (aeval A m) (aeval A s) (aeval A v) := rfl
    rw [hr]
    unfold entryR
    split
    · split
      · rename_i hb
        refine ⟨by simp [Clean], hm.set _ ?_, by simp, Nat.le_refl _⟩
        exact Cleans_mput _ (h.eval v) (hm.get hb).1
      · exact ⟨by simp [Clean], hm, Nat.le_refl _, Nat.le_refl _⟩
    · exact ⟨by simp [Clean], hm, Nat.le_refl _, Nat.le_refl _⟩
  case clear zs x =>
    have hr : r = clearR zs μ (aeval A x) := rfl
    rw [hr]
    have hz : ∀ n, Cleans μ.blks.length μ.nx (zeros n zs) := fun n => Cleans.zeros (Cleans.mono (Nat.zero_le _) (Nat.zero_le _) _ hq) n
    unfold clearR
    split
    · exact ⟨by simp [Clean, Cleans], hm, Nat.le_refl _, Nat.le_refl _⟩
    · split
      · rename_i hb
        exact ⟨by simp [Clean, Cleans], hm.set _ (Cleans.setAt (hm.get hb) (hz _) _), by simp, Nat.le_refl _⟩
      · rename_i hb
        exact ⟨by simp [Clean, Cleans], hm.set _ (Cleans.setAt (hm.get hb) (hz _) _), by simp, Nat.le_refl _⟩
      · exact ⟨by simp [Clean], hm, Nat.le_refl _, Nat.le_refl _⟩
    · exact ⟨by simp [Clean], hm, Nat.le_refl _, Nat.le_refl _⟩
  case mark x =>
    have hr : r = markR μ (aeval A x) := rfl
    rw [hr]
    unfold markR
    split
    · split
      · rename_i hb
        exact ⟨by simp only [Clean]; exact ⟨by have := hm.get hb; simpa [CleanB] using this, trivial⟩, hm.set _ (by simp [CleanB]), by simp, Nat.le_refl _⟩
      · exact ⟨by simp [Clean], hm, Nat.le_refl _, Nat.le_refl _⟩
    · exact ⟨by simp [Clean], hm, Nat.le_refl _, Nat.le_refl _⟩
theorem E_df {μ : AMem} {A : ATmps} {q : EOp} : (q.sem A μ).μ.df = μ.df := by
  cases q <;> simp only [EOp.sem]
  · unfold storeR; split <;> (try split) <;> rfl
  · unfold mapPutR; split <;> (try split) <;> rfl
  · unfold appendR; split <;> (try split) <;> rfl
  · unfold appendMR
    split
    · split
      · split <;> rfl
      · split <;> (try split) <;> rfl
    · rfl
  · unfold mapEntryR; split <;> (try split) <;> rfl
  · unfold entryR; split <;> (try split) <;> rfl
  · unfold clearR; split <;> (try split) <;> rfl
  · unfold markR; split <;> (try split) <;> rfl
end Go.Proofs.YtjleeecaebgblaaGreatDoor.AL
namespace Go.Proofs.YtjleeecaebgblaaGreatDoor.AL
open Go.RowKit
/-- Less known: the names below k; stamps as ρ tells. -/
def Gh.less (g : Gh) (k : Nat) (ρ : Nat → Option Nat) : Gh :=
  { φ := fun i => if i < k then g.φ i else none, H := g.H, T := fun s => (ρ s).bind g.T, Cp := fun i => if i < k then g.Cp i else none }
theorem less_φ {g : Gh} {k : Nat} {ρ : Nat → Option Nat} {i b : Nat} (h : (g.less k ρ).φ i = some b) : i < k ∧ g.φ i = some b := by
  simp only [Gh.less] at h
  split at h
  · exact ⟨by assumption, h⟩
  · cases h
theorem less_T {g : Gh} {k : Nat} {ρ : Nat → Option Nat} {s : Nat} {x : Nat × Nat × Nat × TypeId} (h : (g.less k ρ).T s = some x) : ∃ r, ρ s = some r ∧ g.T r = some x := by
  simp only [Gh.less] at h
  cases hr : ρ s with
  | none => simp [hr] at h
  | some r => simp only [hr, Option.bind_some] at h; exact ⟨r, rfl, h⟩
section
variable {g : Gh} {k s : Nat} {ρ : Nat → Option Nat} (hid : ∀ r, r < s → ρ r = some r)
include hid
theorem TkR_less {n len : Nat} {A : Option Addr} {c : Nat} : ∀ {tk : Tk}, (match tk with | .own r _ => r < s | _ => True) → TkR g n len A c tk → TkR (g.less k ρ) n len A c tk
  | .no, _, _ => trivial
  | .full, _, h => h
  | .own r e, hr, h => h.imp id fun ⟨b, e1, e2⟩ => ⟨b, e1, by simp only [Gh.less, hid r hr, Option.bind_some]; exact e2⟩
  | .row, _, h => h
omit hid in
theorem TkM_less {id off n c : Nat} (hi : id < k) : ∀ {tk : Tk}, TkM g id off n c tk → TkM (g.less k ρ) id off n c tk
  | .no, h => h
  | .full, h => h
  | .own _ _, h => h
  | .row, h => ⟨h.1, by simp only [Gh.less]; rw [if_pos hi]; exact h.2⟩
mutual
theorem VR_less : ∀ (a : AVal) (cv : Value), Clean k s a → VR g a cv → VR (g.less k ρ) a cv
  | .any, _, _, _ => by simp [VR]
  | .glob _ _, _, _, h => by simpa [VR] using h
  | .lit _, _, _, h => by simpa [VR] using h
  | .agg cs, cv, hc, h => by
    simp only [VR, Clean] at h hc ⊢; obtain ⟨vs, e, h⟩ := h; exact ⟨vs, e, VRs_less cs vs hc h⟩
  | .tup cs, cv, hc, h => by
    simp only [VR, Clean] at h hc ⊢; obtain ⟨vs, e, h⟩ := h; exact ⟨vs, e, VRs_less cs vs hc h⟩
  | .sl n cs tk, cv, hc, h => by
    simp only [VR, Clean] at h hc ⊢; obtain ⟨A, c, e, hn, ht, h⟩ := h
    exact ⟨A, c, e, hn, TkR_less hid hc.2 ht, h.imp id fun ⟨b, o, e, h⟩ => ⟨b, o, e, VC_less b cs o hc.1 h⟩⟩
  | .ptr id off, cv, hc, h => by
    simp only [VR, Clean] at h hc ⊢; obtain ⟨b, e, h⟩ := h; exact ⟨b, by simp only [Gh.less]; rw [if_pos hc]; exact e, h⟩
  | .ep cs, cv, hc, h => by
    simp only [VR, Clean] at h hc ⊢; obtain ⟨b, o, e, h⟩ := h; exact ⟨b, o, e, VC_less b cs o hc h⟩
  | .mp id, cv, hc, h => by
    simp only [VR, Clean] at h hc ⊢; obtain ⟨b, e, h⟩ := h; exact ⟨b, by simp only [Gh.less]; rw [if_pos hc]; exact e, h⟩
  | .ms id off n tk, cv, hc, h => by
    simp only [VR, Clean] at h hc ⊢; obtain ⟨b, c, e, h1, h2, h3⟩ := h; exact ⟨b, c, by simp only [Gh.less]; rw [if_pos hc]; exact e, h1, h2, TkM_less hc h3⟩
  | .fn f fs cs, cv, hc, h => by
    simp only [VR, Clean] at h hc ⊢; obtain ⟨vs, us, e, h1, h2⟩ := h; exact ⟨vs, us, e, VRs_less fs vs hc.1 h1, VRs_less cs us hc.2 h2⟩
  | .ifc t v, cv, hc, h => by
    simp only [VR, Clean] at h hc ⊢; obtain ⟨x, e, h⟩ := h; exact ⟨x, e, VR_less v x hc h⟩
  | .opt b v, cv, hc, h => by
    simp only [VR, Clean] at h hc ⊢; exact ⟨fun hb => VR_less v cv hc (h.1 hb), h.2⟩
  | .stp r, cv, hc, h => by
    simp only [VR, Clean] at h hc ⊢; obtain ⟨b, born, n, e, h1, h2⟩ := h; exact ⟨b, born, n, e, by simp only [Gh.less, hid r hc, Option.bind_some]; exact h1, h2⟩
  | .yld id, cv, hc, h => by
    simp only [VR, Clean] at h hc ⊢; obtain ⟨b, e, h⟩ := h; exact ⟨b, by simp only [Gh.less]; rw [if_pos hc]; exact e, h⟩
theorem VRs_less : ∀ (as : List AVal) (vs : List Value), Cleans k s as → VRs g as vs → VRs (g.less k ρ) as vs
  | [], _, _, h => by simpa [VRs] using h
  | a :: as, vs, hc, h => by
    simp only [VRs, Cleans] at h hc ⊢; obtain ⟨v, vs', e, h1, h2⟩ := h; exact ⟨v, vs', e, VR_less a v hc.1 h1, VRs_less as vs' hc.2 h2⟩
theorem VC_less (b : Nat) : ∀ (as : List AVal) (o : Nat), Cleans k s as → VC g b o as → VC (g.less k ρ) b o as
  | [], _, _, _ => by simp [VC]
  | a :: as, o, hc, h => by
    simp only [VC, Cleans] at h hc ⊢; obtain ⟨⟨x, e, h1⟩, h2⟩ := h; exact ⟨⟨x, e, VR_less a x hc.1 h1⟩, VC_less b as (o + 1) hc.2 h2⟩
end
theorem TkR_W {nx n len : Nat} {A : Option Addr} {c : Nat} : ∀ {tk tk' : Tk}, TkW nx ρ tk tk' → TkR g n len A c tk → TkR (g.less k ρ) n len A c tk'
  | tk, .no, _, _ => trivial
  | .full, .full, _, h => h
  | .full, .own _ _, _, h => .inl h
  | .own r e, .own s' e', hw, h => by
    obtain ⟨rfl, hw⟩ := hw
    exact h.imp id fun ⟨b, e1, e2⟩ => ⟨b, e1, by simp only [Gh.less, hw, Option.bind_some]; exact e2⟩
omit hid in
theorem VWs.length {k s nx : Nat} {ρ : Nat → Option Nat} : ∀ {as as' : List AVal}, VWs k s nx ρ as as' → as'.length = as.length
  | _, _, .nil => rfl
  | _, _, .cons _ _ _ _ _ h => by simp [VWs.length h]
mutual
theorem VR_W {nx : Nat} : ∀ (a a' : AVal) (cv : Value), VW k s nx ρ a a' → VR g a cv → VR (g.less k ρ) a' cv
  | _, _, _, .any v, _ => by simp [VR]
  | _, _, cv, .same v hc, h => VR_less hid v cv hc h
  | _, _, cv, .sl n cs tk tk' hc ht, h => by
    simp only [VR] at h ⊢; obtain ⟨A, c, e, hn, hk, h⟩ := h
    exact ⟨A, c, e, hn, TkR_W hid ht hk, h.imp id fun ⟨b, o, e, h⟩ => ⟨b, o, e, VC_less hid b cs o hc h⟩⟩
  | _, _, cv, .tup cs cs' hw, h => by
    simp only [VR] at h ⊢; obtain ⟨vs, e, h⟩ := h; exact ⟨vs, e, VRs_W cs cs' vs hw h⟩
  | _, _, cv, .agg cs cs' hw, h => by
    simp only [VR] at h ⊢; obtain ⟨vs, e, h⟩ := h; exact ⟨vs, e, VRs_W cs cs' vs hw h⟩
  | _, _, cv, .sl2 n cs cs' tk tk' hw ht, h => by
    simp only [VR] at h ⊢; obtain ⟨A, c, e, hn, hk, h⟩ := h
    refine ⟨A, c, e, hn, by rw [VWs.length hw]; exact TkR_W hid ht hk, ?_⟩
    rcases h with ⟨h1, h2⟩ | ⟨b, o, e, h⟩
    · subst h2; cases hw; exact .inl ⟨h1, rfl⟩
    · exact .inr ⟨b, o, e, VC_W b cs cs' o hw h⟩
  | _, _, cv, .ifc t v v' hw, h => by
    simp only [VR] at h ⊢; obtain ⟨x, e, h⟩ := h; exact ⟨x, e, VR_W v v' x hw h⟩
  | _, _, cv, .opt b v v' hw, h => by
    simp only [VR] at h ⊢; exact ⟨fun hb => VR_W v v' cv hw (h.1 hb), h.2⟩
  | _, _, cv, .got v v' hw, h => by
    simp only [VR] at h; exact VR_W v v' cv hw (h.1 trivial)
theorem VC_W {nx : Nat} (b : Nat) : ∀ (as as' : List AVal) (o : Nat), VWs k s nx ρ as as' → VC g b o as → VC (g.less k ρ) b o as'
  | _, _, _, .nil, _ => by simp [VC]
  | _, _, o, .cons c c' cs cs' h1 h2, h => by
    simp only [VC] at h ⊢; obtain ⟨⟨x, e, r⟩, h⟩ := h; exact ⟨⟨x, e, VR_W c c' x h1 r⟩, VC_W b cs cs' (o + 1) h2 h⟩
theorem VRs_W {nx : Nat} : ∀ (as as' : List AVal) (vs : List Value), VWs k s nx ρ as as' → VRs g as vs → VRs (g.less k ρ) as' vs
  | _, _, _, .nil, h => by simpa [VRs] using h
  | _, _, vs, .cons c c' cs cs' h1 h2, h => by
    simp only [VRs] at h ⊢; obtain ⟨v, vs', e, k1, k2⟩ := h; exact ⟨v, vs', e, VR_W c c' v h1 k1, VRs_W cs cs' vs' h2 k2⟩
end
theorem MR_less : ∀ (es : List (Value × AVal)) (ms : List MapEntry), Cleans k s (es.map (·.2)) → MR g es ms → MR (g.less k ρ) es ms
  | [], _, _, h => by simpa [MR] using h
  | e :: es, ms, hc, h => by
    simp only [MR, List.map_cons, Cleans] at h hc ⊢; obtain ⟨m, ms', e1, e2, h1, h2⟩ := h
    exact ⟨m, ms', e1, e2, VR_less hid _ _ hc.1 h1, MR_less es ms' hc.2 h2⟩
theorem MR_W {nx : Nat} : ∀ (es es' : List (Value × AVal)) (ms : List MapEntry), EWs k s nx ρ es es' → MR g es ms → MR (g.less k ρ) es' ms ∧ (∀ p : Value → Prop, (∀ e ∈ es, p e.1) → ∀ e ∈ es', p e.1)
  | _, _, _, .nil, h => ⟨by simpa [MR] using h, fun _ h => h⟩
  | _, _, ms, .cons x v v' l l' h1 h2, h => by
    simp only [MR] at h; obtain ⟨m, ms', e1, e2, k1, k2⟩ := h
    obtain ⟨r1, r2⟩ := MR_W l l' ms' h2 k2
    refine ⟨by simp only [MR]; exact ⟨m, ms', e1, e2, VR_W hid v v' m.val h1 k1, r1⟩, fun p hp e he => ?_⟩
    rcases List.mem_cons.1 he with rfl | he
    · exact hp (x, v) (by simp)
    · exact r2 p (fun e he => hp e (by simp [he])) e he
theorem BR_W {P : Program} {nx : Nat} {w : World} {i b : Nat} (hi : i < k) {x x' : ABlk} (hw : BW k s nx ρ x x') (h : BR P g w i b x) : BR P (g.less k ρ) w i b x' := by
  cases hw with
  | dead => simp [BR]
  | same _ hc =>
    cases x with
    | cells t cs => simp only [BR] at h ⊢; obtain ⟨vs, e, r⟩ := h; exact ⟨vs, e, VRs_less hid cs vs hc r⟩
    | map kk es => simp only [BR] at h ⊢; obtain ⟨ms, clk, e, r, o⟩ := h; exact ⟨ms, clk, e, MR_less hid es ms hc r, o⟩
    | row t cs => simp only [BR] at h ⊢; obtain ⟨vs, sp, c, e, r, hcp, hl⟩ := h; exact ⟨vs, sp, c, e, VRs_less hid cs vs hc r, by simp only [Gh.less]; rw [if_pos hi]; exact hcp, hl⟩
    | dead => simp [BR]
    | loop L => simp only [BR] at h ⊢; obtain ⟨fn, tmps, asgn, body, ds, e, r, hi⟩ := h; exact ⟨fn, tmps, asgn, body, ds, e, ⟨r.1, fun t => VR_less hid (L.tmps t) _ (hc t) (r.2 t)⟩, hi⟩
    | dfr => simpa [BR] using h
    | mapP kk es k' r =>
      simp only [BR] at h ⊢; obtain ⟨ms, clk, e, q, o1, o2, o3, o4, born, n, ty, j, m, ht, r2⟩ := h
      exact ⟨ms, clk, e, MR_less hid es ms hc.1 q, o1, o2, o3, o4, born, n, ty, j, m, by simp only [Gh.less, hid r hc.2, Option.bind_some]; exact ht, r2⟩
  | row t cs cs' hc => simp only [BR] at h ⊢; obtain ⟨vs, sp, c, e, r, hcp, hl⟩ := h; exact ⟨vs, sp, c, e, VRs_W hid cs cs' vs hc r, by simp only [Gh.less]; rw [if_pos hi]; exact hcp, hl⟩
  | cells t cs cs' hc => simp only [BR] at h ⊢; obtain ⟨vs, e, r⟩ := h; exact ⟨vs, e, VRs_W hid cs cs' vs hc r⟩
  | map kk es es' hc =>
    simp only [BR] at h ⊢; obtain ⟨ms, clk, e, r, o1, o2⟩ := h
    obtain ⟨r1, r2⟩ := MR_W hid es es' ms hc r
    exact ⟨ms, clk, e, r1, r2 (fun v => keyFit kk v = true) o1, o2⟩
end
theorem BWs.get {k s nx : Nat} {ρ : Nat → Option Nat} : ∀ {l l' : List ABlk}, BWs k s nx ρ l l' → ∀ (i : Nat) (b' : ABlk), l'[i]? = some b' → ∃ b, l[i]? = some b ∧ BW k s nx ρ b b'
  | _, _, .nil _, i, b', h => by simp at h
  | _, _, .cons b c l l' h1 h2, i, b', h => by
    cases i with
    | zero => simp at h; subst h; exact ⟨b, rfl, h1⟩
    | succ i => simp at h; simpa using BWs.get h2 i b' h
theorem BW.dead_of {k s nx : Nat} {ρ : Nat → Option Nat} {b b' : ABlk} (h : BW k s nx ρ b b') (hd : b'.isDead = false) : b.isDead = false := by
  cases h with
  | dead => cases hd
  | same => exact hd
  | cells => rfl
  | row => rfl
  | map => rfl
/-- The base and what was reached from it. -/
structure J (P : Program) (g0 : Gh) (w0 : World) (μ0 : AMem) (g : Gh) (w : World) (μ : AMem) : Prop where
  base : ∀ s, μ0.nx ≤ s → g0.T s = none
  sim : Sim P g w μ
  st : St g0 w0 μ0 g w μ
  wf : WFm μ
  nx : μ0.nx ≤ μ.nx
  bl : ∀ i b, g0.φ i = some b → i < μ0.blks.length
  bc : ∀ i c, g0.Cp i = some c → i < μ0.blks.length
section
variable {k s nx : Nat} {ρ : Nat → Option Nat} (hs : s ≤ nx) (htop : ∀ r, nx ≤ r → ρ r = none)
include hs htop
mutual
theorem Clean_W : ∀ (a a' : AVal), VW k s nx ρ a a' → Clean k nx a'
  | _, _, .any v => by simp [Clean]
  | _, _, .same v hc => Clean.mono (Nat.le_refl _) hs v hc
  | _, _, .sl n cs tk tk' hc ht => by
    simp only [Clean]
    refine ⟨Cleans.mono (Nat.le_refl _) hs cs hc, ?_⟩
    cases tk' with
    | no => trivial
    | full => trivial
    | row => trivial
    | own r e =>
      cases tk with
      | no => exact ht.elim
      | row => exact ht.elim
      | full => exact ht.1
      | own q e' =>
        have := ht.2
        rcases Nat.lt_or_ge r nx with h | h
        · exact h
        · rw [htop r h] at this; cases this
  | _, _, .tup cs cs' hw => by simp only [Clean]; exact Cleans_W cs cs' hw
  | _, _, .agg cs cs' hw => by simp only [Clean]; exact Cleans_W cs cs' hw
  | _, _, .sl2 n cs cs' tk tk' hw ht => by
    simp only [Clean]
    refine ⟨Cleans_W cs cs' hw, ?_⟩
    cases tk' with
    | no => trivial
    | full => trivial
    | row => trivial
    | own r e =>
      cases tk with
      | no => exact ht.elim
      | row => exact ht.elim
      | full => exact ht.1
      | own q e' =>
        have := ht.2
        rcases Nat.lt_or_ge r nx with h | h
        · exact h
        · rw [htop r h] at this; cases this
  | _, _, .ifc t v v' hw => by simp only [Clean]; exact Clean_W v v' hw
  | _, _, .opt b v v' hw => by simp only [Clean]; exact Clean_W v v' hw
  | _, _, .got v v' hw => Clean_W v v' hw
theorem Cleans_W : ∀ (as as' : List AVal), VWs k s nx ρ as as' → Cleans k nx as'
  | _, _, .nil => by simp [Cleans]
  | _, _, .cons c c' cs cs' h1 h2 => by simp only [Cleans]; exact ⟨Clean_W c c' h1, Cleans_W cs cs' h2⟩
end
theorem CleanB_W {b b' : ABlk} (h : BW k s nx ρ b b') : CleanB k nx b' := by
  cases h with
  | dead => trivial
  | same _ hc => exact CleanB.mono (Nat.le_refl _) hs hc
  | cells t cs cs' h => exact Cleans_W hs htop cs cs' h
  | row t cs cs' h => exact Cleans_W hs htop cs cs' h
  | map kk es es' h =>
    simp only [CleanB]
    induction h with
    | nil => simp [Cleans]
    | cons x v v' l l' h1 _ ih => simp only [List.map_cons, Cleans]; exact ⟨Clean_W hs htop v v' h1, ih⟩
end
theorem MW.sound {P : Program} {g0 : Gh} {w0 : World} {μ0 : AMem} {g : Gh} {w : World} {μ μ' : AMem} {ρ : Nat → Option Nat} (hm : MW μ0.blks.length μ0.nx ρ μ μ') (hj : J P g0 w0 μ0 g w μ) :
    J P g0 w0 μ0 (g.less μ'.blks.length ρ) w μ' := by
  have h := hj.sim
  have getb : ∀ i b', μ'.blks[i]? = some b' → ∃ b, μ.blks[i]? = some b ∧ BW μ'.blks.length μ0.nx μ'.nx ρ b b' := fun i b' => hm.blks.get i b'
  constructor
  · exact hj.base
  · constructor
    · intro i b e
      obtain ⟨h1, h2⟩ := less_φ e
      exact ⟨h1, (h.lt i b h2).2⟩
    · intro i j b x y e e' hx hy dx dy
      obtain ⟨x', hx', hwx⟩ := getb i x hx
      obtain ⟨y', hy', hwy⟩ := getb j y hy
      exact h.inj i j b x' y' (less_φ e).2 (less_φ e').2 hx' hy' (hwx.dead_of dx) (hwy.dead_of dy)
    · intro i c e
      simp only [Gh.less] at e ⊢
      split at e
      · rename_i hi; rw [if_pos hi]; exact h.cpl i c e
      · cases e
    · intro i b x e hx
      obtain ⟨y, hy, hw⟩ := getb i x hx
      exact BR_W hm.id (less_φ e).1 hw (h.blk i b y (less_φ e).2 hy)
    · exact h.imm
    · intro i b x o e hx hd
      obtain ⟨y, hy, hw⟩ := getb i x hx
      exact h.sep i b y o (less_φ e).2 hy (hw.dead_of hd)
    · intro r b c n e ht
      obtain ⟨q, _, hq⟩ := less_T ht
      exact h.tlt q b c n e hq
    · intro r b c n e hr ht
      obtain ⟨q, hρ, hq⟩ := less_T ht
      exact h.tk q b c n e (hm.lv r q hr hρ) hq
    · intro r b c n e i x hr ht hi hx
      obtain ⟨q, hρ, hq⟩ := less_T ht
      obtain ⟨y, hy, hw⟩ := getb i x hx
      have hd := h.tsep q b c n e i y (hm.lv r q hr hρ) hq (less_φ hi).2 hy
      cases hx' : x.isDead with
      | true => rfl
      | false => have := hw.dead_of hx'; rw [hd] at this; cases this
    · intro r r' b c n e c' n' e' hr hr' ht ht'
      obtain ⟨q, hρ, hq⟩ := less_T ht
      obtain ⟨q', hρ', hq'⟩ := less_T ht'
      have := h.tinj q q' b c n e c' n' e' (hm.lv r q hr hρ) (hm.lv r' q' hr' hρ') hq hq'
      subst this
      exact hm.inj r r' q hr hr' hρ hρ'
    · exact hm.nd
    · exact hm.lt
    · intro r hr
      simp only [Gh.less, hm.top r hr]; rfl
    · intro b cs e
      rw [hm.gl] at e
      exact VC_less (k := μ'.blks.length) (s := μ0.nx) hm.id b cs 0 (Cleans.mono (Nat.zero_le _) (Nat.zero_le _) _ (hj.wf.gl b cs e)) (h.gl b cs e)
  · refine ⟨⟨fun i b e => ?_, hj.st.le.H, fun r x e => ?_, fun i c e => ?_⟩, fun i hi => ?_, hm.k, hj.st.hn, hj.st.frame, fun b hb ho => hj.st.own b hb ?_⟩
    · have hi := hj.bl i b e
      simp only [Gh.less]
      rw [if_pos (Nat.lt_of_lt_of_le hi hm.k)]; exact hj.st.le.φ i b e
    · have hr : r < μ0.nx := by
        rcases Nat.lt_or_ge r μ0.nx with h | h
        · exact h
        · rw [hj.base r h] at e; cases e
      simp only [Gh.less, hm.id r hr, Option.bind_some]; exact hj.st.le.T r x e
    · have hi := hj.bc i c e
      simp only [Gh.less]
      rw [if_pos (Nat.lt_of_lt_of_le hi hm.k)]; exact hj.st.le.Cp i c e
    · simp only [Gh.less]
      rw [if_pos (Nat.lt_of_lt_of_le hi hm.k)]; exact hj.st.agree i hi
    · rcases ho with ⟨i, hi⟩ | ⟨r, hr, c, n, e, ht⟩
      · exact .inl ⟨i, (less_φ hi).2⟩
      · obtain ⟨q, hρ, hq⟩ := less_T ht
        exact .inr ⟨q, hm.lv r q hr hρ, c, n, e, hq⟩
  · refine ⟨fun b hb => ?_, fun b cs e => hj.wf.gl b cs (by rw [← hm.gl]; exact e), fun d hd => CleanD.mono (Nat.le_refl _) hm.s (hm.dc d (by rw [← hm.df]; exact hd))⟩
    obtain ⟨i, hi⟩ := List.getElem?_of_mem hb
    obtain ⟨y, hy, hw⟩ := getb i b hi
    exact CleanB_W hm.s hm.top hw
  · exact hm.s
  · exact hj.bl
  · exact hj.bc
theorem DfR_less {P : Program} {g : Gh} {k s : Nat} {ρ : Nat → Option Nat} (hid : ∀ r, r < s → ρ r = some r) : ∀ (l : List ADef) (ds : List Deferred), (∀ d, d ∈ l → CleanD k s d) → DfR P g l ds → DfR P (g.less k ρ) l ds
  | [], _, _, h => h
  | .mark id :: l, _, hc, ⟨b, args, ds', e, k1, k2⟩ => ⟨b, args, ds', e, by
      have : id < k := hc (.mark id) List.mem_cons_self
      simp only [Gh.less]; rw [if_pos this]; exact k1, DfR_less hid l ds' (fun d hd => hc d (List.mem_cons_of_mem _ hd)) k2⟩
  | .fn f as :: l, _, hc, ⟨fv, cap, vs, cs, ds', e, k1, k2, k3⟩ => ⟨fv, cap, vs, cs, ds', e, k1, VRs_less hid as cs (hc (.fn f as) List.mem_cons_self) k2, DfR_less hid l ds' (fun d hd => hc d (List.mem_cons_of_mem _ hd)) k3⟩
theorem Wk.sound {P : Program} {g0 : Gh} {w0 : World} {μ0 : AMem} {g : Gh} {w : World} {μ μ' : AMem} {A A' : ATmps} {N : Nat} {a : Act} {r : Option Nat} (h : Wk ⟨μ0.blks.length, μ0.nx, r⟩ A μ A' μ') (hj : J P g0 w0 μ0 g w μ) (ht : TR N g A a) {ds : List Deferred} (hd : DfR P g μ.df ds) :
    ∃ g', J P g0 w0 μ0 g' w μ' ∧ TR N g' A' a ∧ CleanA μ'.blks.length μ'.nx A' ∧ DfR P g' μ'.df ds := by
  obtain ⟨ρ, hm, hv⟩ := h
  exact ⟨_, hm.sound hj, ⟨ht.size, fun t => VR_W hm.id _ _ _ (hv t) (ht.val t)⟩, fun t => Clean_W hm.s hm.top _ _ (hv t), by rw [hm.df]; exact DfR_less hm.id μ.df ds hm.dc hd⟩
end Go.Proofs.YtjleeecaebgblaaGreatDoor.AL
