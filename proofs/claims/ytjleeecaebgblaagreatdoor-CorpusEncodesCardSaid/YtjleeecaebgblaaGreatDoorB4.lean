/- Evaluating what is asked, step by step; clones of empty slices. -/
import Derived.Test.YtjleeecaebgblaaGreatDoorA9
import Derived.ChangeArms
set_option linter.all false
namespace Go.Proofs.YtjleeecaebgblaaGreatDoor.AL
open Go.RowKit
variable {P : Program} {b : Base} {K : AK} {E : AE} {A : ATmps} {μ : AMem}
theorem sy_skip : awp P b .skip K E A μ = K A μ := rfl
theorem sy_region (l : List AStep) : awp P b (.region l) K E A μ = stepsT P E l K A μ := rfl
theorem sy_draw (l : List DStep) : awp P b (.draw l) K E A μ = stepsD P (hideE (dstsD l) E) K l [] A μ := rfl
theorem sy_seq (x y : ACode) : awp P b (.seq x y) K E A μ = awp P b x (awp P b y K E) E A μ := rfl
theorem sy_cond (c : Operand) (x y : ACode) : awp P b (.cond c x y) K E A μ = cnd (aeval A c) fun t => (t = true → awp P b x K E A μ) ∧ (t = false → awp P b y K E A μ) := rfl
/-- What a block asks where it is left. -/
def blockE (id : Nat) (K : AK) (E : AE) : AE := fun e A μ => match e with
  | .exit j => if j = id then K A μ else E (.exit j) A μ
  | e => E e A μ
theorem sy_block (id : Nat) (c : ACode) : awp P b (.block id c) K E A μ = awp P b c K (blockE id K E) A μ := rfl
theorem sy_blockE (id j : Nat) : blockE id K E (.exit j) A μ = if j = id then K A μ else E (.exit j) A μ := rfl
theorem sy_blockR (id : Nat) : blockE id K E .ret A μ = E .ret A μ := rfl
theorem sy_exit (id : Nat) : awp P b (.exit id) K E A μ = E (.exit id) A μ := rfl
theorem sy_ret : awp P b .ret K E A μ = E .ret A μ := rfl
theorem sy_nil : stepsT P E [] K A μ = K A μ := rfl
theorem sy_cons (s : AStep) (l : List AStep) : stepsT P E (s :: l) K A μ = stepT P E s (stepsT P E l K) A μ := rfl
theorem sy_q (i : Nat) (d : Option Nat) (o : QOp) (rd rc : List Nat) : stepT P E ⟨i, d, none, .q o, rd, rc⟩ K A μ = ((o.sem A μ).ok ∧ K (put A d (o.sem A μ).v) μ) := rfl
theorem sy_n (i : Nat) (d : Option Nat) (o : NOp) (rd rc : List Nat) : stepT P E ⟨i, d, none, .n o, rd, rc⟩ K A μ = ((o.sem A).ok ∧ K (put A d ((o.sem A).v μ.blks.length)) { μ with blks := μ.blks ++ [(o.sem A).blk] }) := rfl
theorem sy_e (i : Nat) (d : Option Nat) (o : EOp) (rd rc : List Nat) : stepT P E ⟨i, d, none, .e o, rd, rc⟩ K A μ = ((o.sem A μ).ok ∧ K (put A d (o.sem A μ).v) (o.sem A μ).μ) := rfl
theorem sy_isnil (i : Nat) (d : Option Nat) (kd : NilK) (x : Operand) (neg : Bool) (rd rc : List Nat) : stepT P E ⟨i, d, none, .isnil kd x neg, rd, rc⟩ K A μ = isnilR kd neg (aeval A x) fun b => K (put A d (.lit (.bool b))) μ := rfl
theorem sy_call (i : Nat) (d : Option Nat) (f : FuncId) (args : List Operand) (rd rc : List Nat) : stepT P E ⟨i, d, none, .call f args, rd, rc⟩ K A μ = calls P f (args.map (aeval A)) μ (afterCall d A K E) := rfl
theorem sy_gq (i : Nat) (d : Option Nat) (t : Nat) (want : Bool) (o : QOp) (rd rc : List Nat) : stepT P E ⟨i, d, some (t, want), .q o, rd, rc⟩ K A μ = rg (gdR want (A t)) fun p => rsG p (o.sem (stripA p A) μ) fun v => K (put A d v) μ := rfl
theorem sy_gcall (i : Nat) (d : Option Nat) (t : Nat) (want : Bool) (f : FuncId) (args : List Operand) (rd rc : List Nat) : stepT P E ⟨i, d, some (t, want), .call f args, rd, rc⟩ K A μ = rg (gdR want (A t)) fun p =>
      (∃ v, Clean μ.blks.length μ.nx v ∧ (p = true → calls P f (args.map (aeval (stripA p A))) μ (fun o' μ' => o' = .ret v ∧ μ' = μ)) ∧ K (put A d (.opt p v)) μ) ∨
      ((p = true → calls P f (args.map (aeval (stripA p A))) μ (afterCall d A K E)) ∧ (p = false → K (put A d (.lit undef)) μ)) := rfl
theorem sy_put (d : Nat) (v : AVal) (t : Nat) : put A (some d) v t = if t = d then v else A t := rfl
theorem sy_put0 (v : AVal) : put A none v = A := rfl
theorem sy_tmp (t : Nat) : aeval A (.tmp t) = A t := rfl
theorem sy_int (k : IntKind) (n : Int) : aeval A (.const (.int k n)) = .lit (.int k n) := rfl
theorem sy_bool (n : Bool) : aeval A (.const (.bool n)) = .lit (.bool n) := rfl
theorem sy_nilsl : aeval A (.const (.slice none 0 0)) = .sl 0 [] .full := rfl
theorem sy_nilmap : aeval A (.const (.map none)) = .lit (.map none) := rfl
theorem sy_dnil (pd : Pend) : stepsD P E K [] pd A μ = K A μ := rfl
theorem sy_dcons (s : AStep) (l : List DStep) (pd : Pend) : stepsD P E K (.one s :: l) pd A μ = stepD P E s (stepsD P E K l) pd A μ := rfl
theorem sy_dq (i : Nat) (d : Option Nat) (o : QOp) (rd rc : List Nat) (K : Pend → AK) (pd : Pend) : stepD P E ⟨i, d, none, .q o, rd, rc⟩ K pd A μ =
    ((o.sem (rsA rd A) μ).ok ∧ K ((i, fun μ' => (o.sem (rsA rd A) μ').ok ∧ (o.sem (rsA rd A) μ').v = (o.sem (rsA rd A) μ).v) :: pd) (put A d (o.sem (rsA rd A) μ).v) μ) := rfl
theorem sy_rsA (rd : List Nat) (t : Nat) : rsA rd A t = if t ∈ rd then A t else .any := rfl
/-- A LOOP, by what holds at the beginning of each round. -/
theorem sy_loop {c : ACode} {α : Type} (ok : α → Prop) (I : α → ATmps × AMem) (m : α → Nat) (x0 : α) (h0 : ok x0) (hw : Wk b A μ (I x0).1 (I x0).2)
    (h : ∀ x, ok x → awp P b c (fun A' μ' => ∃ y, ok y ∧ m y < m x ∧ Wk b A' μ' (I y).1 (I y).2) E (I x).1 (I x).2) : awp P b (.loop c) K E A μ := .inr ⟨α, ok, I, m, x0, h0, hw, h⟩
/-- Nothing is forgotten but temporaries. -/
theorem Wk.tmps {b : Base} {A A' : ATmps} {μ : AMem} (hk : b.k ≤ μ.blks.length) (hs : b.s ≤ μ.nx) (hB : ∀ x ∈ μ.blks, CleanB μ.blks.length b.s x) (hlv : ∀ r ∈ μ.lv, r < μ.nx) (hnd : μ.lv.Nodup) (hdf : ∀ d ∈ μ.df, CleanD μ.blks.length b.s d)
    (ρ : Nat → Option Nat) (hid : ∀ r, r < b.s → ρ r = some r) (htop : ∀ r, μ.nx ≤ r → ρ r = none) (hlr : ∀ r q, r ∈ μ.lv → ρ r = some q → q ∈ μ.lv) (hinj : ∀ r r' q, r ∈ μ.lv → r' ∈ μ.lv → ρ r = some q → ρ r' = some q → r = r')
    (hv : ∀ t, VW μ.blks.length b.s μ.nx ρ (A t) (A' t)) : Wk b A μ A' μ := by
  refine ⟨ρ, ⟨hk, hs, ?_, hid, htop, hlv, hlr, hinj, hnd, rfl, rfl, hdf⟩, hv⟩
  generalize hq : μ.blks.length = q at hB
  generalize μ.blks = l at hB
  clear hq
  induction l with
  | nil => exact .nil _
  | cons x l ih => exact .cons _ _ _ _ (.same _ (hB x (by simp))) (ih fun y hy => hB y (by simp [hy]))
end Go.Proofs.YtjleeecaebgblaaGreatDoor.AL
namespace Go.Proofs.YtjleeecaebgblaaGreatDoor.AL
open Go.RowKit
/-- A clone of a slice. -/
def cloneF (e : TypeId) (sz bytes : Nat) : AFn :=
  ⟨(.seq (.region [⟨0, (some 2), none, (.q (.move (.const (.slice none 0 0)))), [], []⟩])
 (.seq (.seq (.region [⟨0, (some 3), none, (.q (.move (.tmp 0))), [], []⟩, ⟨1, (some 4), none, (.isnil .sl (.tmp 3) false), [], []⟩])
 (.cond (.tmp 4) (.seq (.region [⟨0, (some 2), none, (.q (.move (.const (.slice none 0 0)))), [], []⟩])
  .ret) .skip))
 (.seq (.region [⟨0, (some 5), none, (.q (.bslice sz 0 [])), [], []⟩, ⟨1, (some 6), none, (.q (.move (.tmp 0))), [], []⟩, ⟨2, (some 7), none, (.e (.appendM e sz bytes (.tmp 5) (.tmp 6))), [], []⟩, ⟨3, (some 2), none, (.q (.move (.tmp 7))), [], []⟩])
 .ret))),
  8, [.tmp 2]⟩
theorem clone_ok {P : Program} (hm : P.follows .mixedOrders = true) {mu : Nat → Nat → Bool} {f : FuncId} {e : TypeId} {sz bytes : Nat} (hF : mkFn P mu f = some (cloneF e sz bytes)) (hcal : callable P f = true) (μ : AMem) (tk : Tk) :
    calls P f [.sl 0 [] tk] μ (fun o μ' => o = .ret (.sl 0 [] .full) ∧ μ' = μ) := by
  refine ⟨hcal, ACalls.of hm hF (by simp [cloneF]) fun hw hcl => ?_⟩
  simp only [cloneF]
  simp [sy_seq, sy_region, sy_cons, sy_nil, sy_q, sy_isnil, QOp.sem, sy_tmp, sy_put, A0, isnilR, sy_nilsl, sy_cond, cnd, sy_skip, sy_ret, retE, retK, leaveA, retVs, oneOr, sy_e, EOp.sem, appendMR, asrc, bsliceR, aSeq, partsA, fullS, AMem.bare]
end Go.Proofs.YtjleeecaebgblaaGreatDoor.AL
namespace Go.Proofs.YtjleeecaebgblaaGreatDoor.AL
open Go.RowKit
variable {P : Program} {b : Base} {K : AK} {E : AE} {A : ATmps} {μ : AMem}
/-- Temporaries, listed. -/
def atL : List (Nat × AVal) → ATmps
  | [], _ => .any
  | p :: l, t => if t = p.1 then p.2 else atL l t
theorem sy_atL (p : Nat × AVal) (l : List (Nat × AVal)) (t : Nat) : atL (p :: l) t = if t = p.1 then p.2 else atL l t := rfl
theorem sy_atL0 (t : Nat) : atL [] t = .any := rfl
theorem VW_atL {k s nx : Nat} {ρ : Nat → Option Nat} : ∀ {L : List (Nat × AVal)}, (∀ p ∈ L, VW k s nx ρ (A p.1) p.2) → ∀ t, VW k s nx ρ (A t) (atL L t)
  | [], _, t => .any _
  | p :: l, h, t => by
    simp only [atL]
    by_cases e : t = p.1
    · rw [if_pos e, e]; exact h p (by simp)
    · rw [if_neg e]; exact VW_atL (fun q hq => h q (by simp [hq])) t
/-- What stood for the stamps from s on: those of a list. -/
def ρG (s : Nat) (qs : List (Option Nat)) (r : Nat) : Option Nat := if r < s then some r else (qs[r - s]?).join
/-- Different stamps. -/
def Apart (qs : List (Option Nat)) : Prop := ∀ (i j q : Nat), qs[i]? = some (some q) → qs[j]? = some (some q) → i = j
theorem Apart.nil : Apart [] := fun i j q h => by simp at h
theorem Apart.one (q : Option Nat) : Apart [q] := fun i j q h k => by
  have hi := (List.getElem?_eq_some_iff.1 h).1
  have hj := (List.getElem?_eq_some_iff.1 k).1
  simp at hi hj; omega
theorem MW.gen {b : Base} {l l' : List ABlk} {lv : List Nat} {nx : Nat} {gl : Nat → Option (List AVal)} {df : List ADef} (lv0 : List Nat) (qs : List (Option Nat)) (hk : b.k ≤ l'.length) (hlv0 : ∀ r ∈ lv0, r < b.s ∧ r ∈ lv) (hn0 : lv0.Nodup) (hqs : ∀ q, some q ∈ qs → q ∈ lv ∧ (b.s ≤ q ∨ q ∉ lv0)) (hnd : Apart qs)
    (hdc : ∀ d ∈ df, CleanD l'.length b.s d) (hB : BWs l'.length b.s (b.s + qs.length) (ρG b.s qs) l l') :
    MW b.k b.s (ρG b.s qs) ⟨l, lv, nx, gl, df⟩ ⟨l', lv0 ++ (List.range qs.length).map (b.s + ·), b.s + qs.length, gl, df⟩ := by
  have hr : ∀ r, r ∈ (List.range qs.length).map (b.s + ·) → b.s ≤ r ∧ r < b.s + qs.length := by
    intro r hr
    obtain ⟨i, hi, rfl⟩ := List.mem_map.1 hr
    have := List.mem_range.1 hi
    omega
  have join : ∀ {o : Option (Option Nat)} {q : Nat}, o.join = some q → o = some (some q) := by
    intro o q h
    cases o with
    | none => cases h
    | some x => simp at h; rw [h]
  refine ⟨hk, Nat.le_add_right _ _, hB, fun r h => if_pos h, ?_, ?_, ?_, ?_, ?_, rfl, rfl, hdc⟩
  · intro r h
    have h : b.s + qs.length ≤ r := h
    simp only [ρG]
    rw [if_neg (by omega), List.getElem?_eq_none (by omega)]; rfl
  · intro r h
    rcases List.mem_append.1 h with h | h
    · have := (hlv0 r h).1; show r < b.s + qs.length; omega
    · exact (hr r h).2
  · intro r q h e
    rcases List.mem_append.1 h with h | h
    · simp only [ρG] at e
      rw [if_pos (hlv0 r h).1] at e; cases e
      exact (hlv0 r h).2
    · simp only [ρG] at e
      rw [if_neg (by have := hr r h; omega)] at e
      exact (hqs q (List.mem_of_getElem? (join e))).1
  · intro r r' q h h' e e'
    have low : ∀ r, r ∈ lv0 → ρG b.s qs r = some r := fun r h => if_pos (hlv0 r h).1
    have high : ∀ r q, r ∈ (List.range qs.length).map (b.s + ·) → ρG b.s qs r = some q → qs[r - b.s]? = some (some q) := fun r q h e => by
      simp only [ρG] at e
      rw [if_neg (by have := hr r h; omega)] at e
      exact join e
    rcases List.mem_append.1 h with h | h <;> rcases List.mem_append.1 h' with h' | h'
    · rw [low r h] at e; rw [low r' h'] at e'; cases e; cases e'; rfl
    · rw [low r h] at e; cases e
      rcases (hqs _ (List.mem_of_getElem? (high _ _ h' e'))).2 with h1 | h1
      · have := (hlv0 _ h).1
        omega
      · exact (h1 h).elim
    · rw [low r' h'] at e'; cases e'
      rcases (hqs _ (List.mem_of_getElem? (high _ _ h e))).2 with h1 | h1
      · have := (hlv0 _ h').1
        omega
      · exact (h1 h').elim
    · have := hnd _ _ _ (high _ _ h e) (high _ _ h' e')
      have := hr r h; have := hr r' h'
      omega
  · rw [List.nodup_append]
    refine ⟨hn0, ?_, ?_⟩
    · exact List.pairwise_map.2 (List.Pairwise.imp (fun h e => h (by simpa using e)) (List.nodup_range (n := qs.length)))
    · intro a ha c hc e
      subst e
      have := (hlv0 a ha).1; have := hr a hc
      omega
/-- LESS: stamps renumbered from s on, blocks forgotten, temporaries but some. -/
theorem Wk.gen {L : List (Nat × AVal)} {l l' : List ABlk} {lv : List Nat} {nx : Nat} {gl : Nat → Option (List AVal)} {df : List ADef} (lv0 : List Nat) (qs : List (Option Nat)) (hk : b.k ≤ l'.length) (hlv0 : ∀ r ∈ lv0, r < b.s ∧ r ∈ lv) (hn0 : lv0.Nodup) (hqs : ∀ q, some q ∈ qs → q ∈ lv ∧ (b.s ≤ q ∨ q ∉ lv0)) (hnd : Apart qs)
    (hdc : ∀ d ∈ df, CleanD l'.length b.s d) (hB : BWs l'.length b.s (b.s + qs.length) (ρG b.s qs) l l') (hv : ∀ p ∈ L, VW l'.length b.s (b.s + qs.length) (ρG b.s qs) (A p.1) p.2) :
    Wk b A ⟨l, lv, nx, gl, df⟩ (atL L) ⟨l', lv0 ++ (List.range qs.length).map (b.s + ·), b.s + qs.length, gl, df⟩ :=
  ⟨_, MW.gen lv0 qs hk hlv0 hn0 hqs hnd hdc hB, VW_atL hv⟩
theorem VW.eq {k s nx : Nat} {ρ : Nat → Option Nat} {a v : AVal} (h : a = v) (hc : Clean k s v) : VW k s nx ρ a v := by subst h; exact .same _ hc
theorem VW.sl' {k s nx : Nat} {ρ : Nat → Option Nat} {a : AVal} {n : Nat} {cs : List AVal} {tk tk' : Tk} (h : a = .sl n cs tk) (hc : Cleans k s cs) (ht : TkW nx ρ tk tk') : VW k s nx ρ a (.sl n cs tk') := by subst h; exact .sl _ _ _ _ hc ht
theorem sy_loopL {c : ACode} {α : Type} (ok : α → Prop) (L : α → List (Nat × AVal)) (M : α → AMem) (m : α → Nat) (x0 : α) (h0 : ok x0) (hw : Wk b A μ (atL (L x0)) (M x0))
    (h : ∀ x, ok x → awp P b c (fun A' μ' => ∃ y, ok y ∧ m y < m x ∧ Wk b A' μ' (atL (L y)) (M y)) E (atL (L x)) (M x)) : awp P b (.loop c) K E A μ :=
  sy_loop ok (fun x => (atL (L x), M x)) m x0 h0 hw h
theorem BWs_same {k s nx : Nat} {ρ : Nat → Option Nat} : ∀ {l r : List ABlk}, (∀ x ∈ l, CleanB k s x) → BWs k s nx ρ (l ++ r) l
  | [], _, _ => .nil _
  | x :: l, r, h => .cons _ _ _ _ (.same _ (h x (by simp))) (BWs_same fun y hy => h y (by simp [hy]))
/-- A call whose contract is known: it gives a value and leaves memory. -/
theorem calls.ret {f : FuncId} {args : List AVal} {v : AVal} {d : Option Nat} (h : calls P f args μ (fun o μ' => o = .ret v ∧ μ' = μ)) (k : K (put A d v) μ) : calls P f args μ (afterCall d A K E) :=
  ⟨h.1, h.2.mono fun o μ' ⟨ho, hm⟩ => by subst ho; subst hm; exact k⟩
theorem calls.mono {f : FuncId} {args : List AVal} {Q Q' : AOut → AMem → Prop} (h : calls P f args μ Q) (k : ∀ o μ', Q o μ' → Q' o μ') : calls P f args μ Q' := ⟨h.1, h.2.mono k⟩
/-- Values of which less is known. -/
structure Less (a a' : AVal) : Prop where
  vr : ∀ g cv, VR g a cv → VR g a' cv
  cl : ∀ k s, Clean k s a → Clean k s a'
theorem Less.refl (a : AVal) : Less a a := ⟨fun _ _ h => h, fun _ _ h => h⟩
theorem Less.no (n : Nat) (cs : List AVal) (tk : Tk) : Less (.sl n cs tk) (.sl n cs .no) :=
  ⟨fun g cv h => by
    simp only [VR] at h ⊢
    obtain ⟨A, c, e, hn, _, k⟩ := h
    exact ⟨A, c, e, hn, trivial, k⟩, fun k s h => by simp only [Clean] at h ⊢; exact ⟨h.1, trivial⟩⟩
def Lesses : List AVal → List AVal → Prop
  | [], as => as = []
  | a :: l, as => ∃ a' l', as = a' :: l' ∧ Less a a' ∧ Lesses l l'
theorem Lesses.vr {g : Gh} : ∀ {as as' : List AVal} {cs : List Value}, Lesses as as' → VRs g as cs → VRs g as' cs
  | [], _, _, h, k => by subst h; exact k
  | a :: l, _, cs, ⟨a', l', e, h1, h2⟩, k => by
    subst e
    simp only [VRs] at k ⊢
    obtain ⟨v, vs, e, k1, k2⟩ := k
    exact ⟨v, vs, e, h1.vr _ _ k1, h2.vr k2⟩
theorem Lesses.cl {k s : Nat} : ∀ {as as' : List AVal}, Lesses as as' → Cleans k s as → Cleans k s as'
  | [], _, h, _ => by subst h; trivial
  | a :: l, _, ⟨a', l', e, h1, h2⟩, h => by
    subst e
    simp only [Cleans] at h ⊢
    exact ⟨h1.cl _ _ h.1, h2.cl h.2⟩
theorem calls.less {f : FuncId} {args args' : List AVal} {Q : AOut → AMem → Prop} (h : calls P f args' μ Q) (hl : Lesses args args') : calls P f args μ Q :=
  ⟨h.1, ⟨fun g w cargs hs hw hc ha => h.2.out g w cargs hs hw (hl.cl hc) (hl.vr ha)⟩⟩
theorem calls.of (hm : P.follows .mixedOrders = true) {f : FuncId} {F : AFn} (hF : callable P f = true ∧ ∃ mu, mkFn P mu f = some F) {args : List AVal} {Q : AOut → AMem → Prop} (hl : args.length ≤ F.ntmps)
    (h : WFm μ → Cleans μ.blks.length μ.nx args → awp P ⟨μ.blks.length, μ.nx, none⟩ F.body (retK P ⟨μ.blks.length, μ.nx, none⟩ F.results fun o μ' => Q o (μ'.bare μ.df)) (retE P ⟨μ.blks.length, μ.nx, none⟩ F.results fun o μ' => Q o (μ'.bare μ.df)) (A0 args) (μ.bare [])) : calls P f args μ Q := by
  obtain ⟨hc, mu, hF⟩ := hF
  exact ⟨hc, ACalls.of hm hF hl h⟩
/-- What temporaries must be. -/
def VWL (k s nx : Nat) (ρ : Nat → Option Nat) (A : ATmps) : List (Nat × AVal) → Prop
  | [] => True
  | p :: l => VW k s nx ρ (A p.1) p.2 ∧ VWL k s nx ρ A l
theorem VWL.all {k s nx : Nat} {ρ : Nat → Option Nat} {A : ATmps} : ∀ {L : List (Nat × AVal)}, VWL k s nx ρ A L → ∀ p ∈ L, VW k s nx ρ (A p.1) p.2
  | [], _, p, hp => by cases hp
  | q :: l, h, p, hp => by
    rcases List.mem_cons.1 hp with rfl | hp
    · exact h.1
    · exact VWL.all h.2 p hp
/-- Nothing is kept of memory. -/
theorem Wk.zero {L : List (Nat × AVal)} {l : List ABlk} {lv : List Nat} {nx : Nat} {gl : Nat → Option (List AVal)} {r : Option Nat} (hv : VWL 0 0 0 (ρG 0 []) A L) : Wk ⟨0, 0, r⟩ A ⟨l, lv, nx, gl, []⟩ (atL L) ⟨[], [], 0, gl, []⟩ :=
  Wk.gen (b := ⟨0, 0, r⟩) [] [] (Nat.le_refl _) (fun r hr => by cases hr) List.nodup_nil (fun r hr => by cases hr) Apart.nil (fun d hd => by cases hd) (.nil _) hv.all
/-- Functions of values alone. -/
def QR (gl : Nat → Option (List AVal)) (v : AVal) : AOut → AMem → Prop := fun o μ' => o = .ret v ∧ μ'.gl = gl
def Pure (P : Program) (gl : Nat → Option (List AVal)) (f : FuncId) (args : List AVal) (v : AVal) : Prop := ∀ μ : AMem, μ.gl = gl → calls P f args μ fun o μ' => o = .ret v ∧ μ' = μ
theorem Pure.of (hm : P.follows .mixedOrders = true) {gl : Nat → Option (List AVal)} {f : FuncId} {F : AFn} (hF : callable P f = true ∧ ∃ mu, mkFn P mu f = some F) {args : List AVal} {v : AVal} (hl : args.length ≤ F.ntmps) (hv : Clean 0 0 v) (hc : Cleans 0 0 args)
    (h : awp P ⟨0, 0, none⟩ F.body (retK P ⟨0, 0, none⟩ F.results (QR gl v)) (retE P ⟨0, 0, none⟩ F.results (QR gl v)) (A0 args) ⟨[], [], 0, gl, []⟩) : Pure P gl f args v := fun μ hμ =>
  calls.pure (calls.of hm hF hl fun _ _ => h) hv hc hμ
theorem ret0 {gl : Nat → Option (List AVal)} {res : List RV} {v : AVal} (hdf : μ.df = []) (hgl : μ.gl = gl) (hok : (retVs A μ res).ok) (hw : VW 0 0 0 (ρG 0 []) (oneOr (retVs A μ res).cs) v) : retK P ⟨0, 0, none⟩ res (QR gl v) A μ := by
  obtain ⟨l, lv, nx, g, df⟩ := μ
  subst hdf; subst hgl
  refine ⟨hok, .inr ⟨v, ⟨[], [], 0, g, []⟩, ?_, rfl, rfl⟩⟩
  exact ⟨_, MW.gen (b := ⟨0, 0, none⟩) [] [] (Nat.le_refl _) (fun r hr => by cases hr) List.nodup_nil (fun r hr => by cases hr) Apart.nil (fun d hd => by cases hd) (.nil _), hw⟩
theorem Pure.ret {gl : Nat → Option (List AVal)} {f : FuncId} {args : List AVal} {v : AVal} {d : Option Nat} (h : Pure P gl f args v) (hg : μ.gl = gl) (k : K (put A d v) μ) : calls P f args μ (afterCall d A K E) := (h μ hg).ret k
end Go.Proofs.YtjleeecaebgblaaGreatDoor.AL
namespace Go.Proofs.YtjleeecaebgblaaGreatDoor.AL
open Go.RowKit
variable {row : Option (Nat × List UInt8)} {μ : AMem} {v : AVal} {bs : List UInt8}
/-- A slice of bytes: by value, or in a row of memory (its number, its bytes). -/
inductive IsB (row : Option (Nat × List UInt8)) : AVal → List UInt8 → Prop
  | sl (bs : List UInt8) (tk : Tk) : IsB row (.sl bs.length (aBytes bs) tk) bs
  | ms (id off n : Nat) (l : List UInt8) (tk : Tk) : row = some (id, l) → off + n ≤ l.length → IsB row (.ms id off n tk) ((l.drop off).take n)
def HasRow (μ : AMem) (row : Option (Nat × List UInt8)) : Prop := ∀ id l, row = some (id, l) → rowCs μ id = some (aBytes l)
theorem aBytes_length (l : List UInt8) : (aBytes l).length = l.length := by simp [aBytes]
theorem aBytes_drop (l : List UInt8) (n : Nat) : (aBytes l).drop n = aBytes (l.drop n) := by simp [aBytes, List.map_drop]
theorem aBytes_take (l : List UInt8) (n : Nat) : (aBytes l).take n = aBytes (l.take n) := by simp [aBytes, List.map_take]
theorem aBytes_append (l r : List UInt8) : aBytes (l ++ r) = aBytes l ++ aBytes r := by simp [aBytes]
theorem aBytes_nil : aBytes [] = [] := rfl
theorem aBytes_cons (a : UInt8) (l : List UInt8) : aBytes (a :: l) = .lit (.int .u8 a.toNat) :: aBytes l := rfl
theorem Cleans_aBytes {k s : Nat} (l : List UInt8) : Cleans k s (aBytes l) := by
  rw [Cleans_iff]
  intro c hc
  obtain ⟨x, _, rfl⟩ := List.mem_map.1 hc
  simp [Clean]
theorem all_one_aBytes : ∀ (l : List UInt8), (aBytes l).all AVal.one = true
  | [] => rfl
  | a :: l => by rw [aBytes_cons, List.all_cons, all_one_aBytes l]; rfl
theorem bytesOf_aBytes : ∀ (l : List UInt8), bytesOf? (aBytes l) = some l
  | [] => rfl
  | a :: l => by
    rw [aBytes_cons, bytesOf?, bytesOf_aBytes l]
    simp [byteOf?]
theorem aBytes_at {l : List UInt8} {i : Nat} (h : i < l.length) : (aBytes l).drop i = .lit (.int .u8 l[i].toNat) :: aBytes (l.drop (i + 1)) := by
  rw [aBytes_drop, List.drop_eq_getElem_cons h, aBytes_cons]
theorem IsB.len (h : IsB row v bs) : lenR .sl μ v = ⟨True, .lit (.int .i64 bs.length)⟩ := by
  cases h with
  | sl tk => rfl
  | ms id off n l tk h1 h2 =>
    simp only [lenR, List.length_take, List.length_drop]
    rw [Nat.min_eq_left (by omega)]
theorem IsB.src (h : IsB row v bs) (hm : HasRow μ row) : asrc μ 1 v = some (bs.length, aBytes bs) := by
  cases h with
  | sl tk => rfl
  | ms id off n l tk h1 h2 =>
    simp only [asrc, hm _ _ h1, aBytes_length, Nat.mul_one, h2, if_true, List.length_take, List.length_drop]
    rw [Nat.min_eq_left (by omega), aBytes_drop, aBytes_take]
theorem IsB.bstr (h : IsB row v bs) (hm : HasRow μ row) : bstrR μ v = ⟨True, .lit (.string ⟨⟨bs⟩⟩)⟩ := by
  cases h with
  | sl tk => simp [bstrR, convR, aBytes_length, bytesOf_aBytes]
  | ms id off n l tk h1 h2 =>
    have := IsB.src (IsB.ms (row := row) id off n l tk h1 h2) hm
    simp only [bstrR, this, aBytes_length, bytesOf_aBytes, List.length_take, List.length_drop]
    have : min n (l.length - off) = n := Nat.min_eq_left (by omega)
    simp [this]
theorem IsB.load (h : IsB row v bs) (hm : HasRow μ row) {e : TypeId} {k : IntKind} {i : Nat} (hi : i < bs.length) :
    (indexAddrR (.sl e 1) v (.lit (.int k i))).ok = True ∧ loadR none (derefS μ (indexAddrR (.sl e 1) v (.lit (.int k i))).v) = ⟨True, .lit (.int .u8 bs[i].toNat)⟩ := by
  cases h with
  | sl tk =>
    simp only [indexAddrR, Int.toNat_natCast, Nat.mul_one, derefS, loadR, aBytes_at hi]
    refine ⟨by simp; omega, by simp⟩
  | ms id off n l tk h1 h2 =>
    have hn : i < n := by simp only [List.length_take] at hi; omega
    have ho : off + i < l.length := by omega
    have hc := hm _ _ h1
    unfold rowCs at hc
    simp only [indexAddrR, Int.toNat_natCast, Nat.mul_one]
    refine ⟨by simp; omega, ?_⟩
    simp only [derefS]
    split at hc <;> cases hc <;> rename_i hb <;> simp only [hb, loadR, aBytes_length, aBytes_at ho] <;> simp [ho]
theorem IsB.slice (h : IsB row v bs) {e : TypeId} {A : ATmps} {lo hi mx : Option Operand} {i j : Nat} (h1 : bndR A lo 0 = ⟨True, i⟩) (h2 : bndR A hi bs.length = ⟨True, j⟩) (hij : i ≤ j) (hj : j ≤ bs.length)
    (h3 : mx = none ∨ ∃ m k, mx = some m ∧ hi.isSome = true ∧ bndR A (some m) 0 = ⟨True, k⟩ ∧ j ≤ k ∧ k ≤ bs.length) :
    (sliceR (.sl e 1) A v lo hi mx).ok = True ∧ IsB row (sliceR (.sl e 1) A v lo hi mx).v ((bs.drop i).take (j - i)) := by
  have hlen : ((bs.drop i).take (j - i)).length = j - i := by simp only [List.length_take, List.length_drop]; omega
  cases h with
  | sl tk =>
    rcases h3 with rfl | ⟨m, k, rfl, hs, h3, hjk, hk⟩
    · simp only [sliceR, h1, h2, Nat.mul_one, aBytes_drop, aBytes_take]
      refine ⟨by simp; omega, ?_⟩
      have := IsB.sl (row := row) ((bs.drop i).take (j - i))
      rw [hlen] at this
      exact this _
    · simp only [sliceR, h1, h2, h3, Nat.mul_one, aBytes_drop, aBytes_take]
      refine ⟨by simp [hs]; omega, ?_⟩
      have := IsB.sl (row := row) ((bs.drop i).take (j - i))
      rw [hlen] at this
      exact this _
  | ms id off n l tk hr hn =>
    have hl : ((l.drop off).take n).length = n := by simp only [List.length_take, List.length_drop]; omega
    rw [hl] at h2 hj
    have key : ∀ tk tk', IsB row (if i = j then .sl 0 [] tk else .ms id (off + i * 1) (j - i) tk') ((((l.drop off).take n).drop i).take (j - i)) := by
      intro tk tk'
      have he : (((l.drop off).take n).drop i).take (j - i) = (l.drop (off + i)).take (j - i) := by
        rw [List.drop_take, List.drop_drop, List.take_take, Nat.min_eq_left (by omega)]
      rw [he]
      by_cases hij' : i = j
      · rw [if_pos hij', hij', Nat.sub_self, List.take_zero]
        exact .sl [] tk
      · rw [if_neg hij', Nat.mul_one]
        exact .ms id (off + i) (j - i) l tk' hr (by omega)
    rcases h3 with rfl | ⟨m, k, rfl, hs, h3, hjk, hk⟩
    · simp only [sliceR, h1, h2]
      exact ⟨by simp; omega, key _ _⟩
    · rw [hl] at hk
      simp only [sliceR, h1, h2, h3]
      exact ⟨by simp [hs]; omega, key _ _⟩
theorem IsB.clean (h : IsB row v bs) {k k' s : Nat} (hr : ∀ id l, row = some (id, l) → id < k) (hc : Clean k' s v) : Clean k s v := by
  cases h with
  | sl tk => simp only [Clean] at hc ⊢; exact ⟨Cleans_aBytes _, hc.2⟩
  | ms id off n l tk h1 h2 => simp only [Clean]; exact hr _ _ h1
theorem IsB.less (h : IsB row v bs) {k : Nat} (hr : ∀ id l, row = some (id, l) → id < k) : ∃ w, IsB row w bs ∧ (∀ s, Clean k s w) ∧ ∀ k' s nx ρ, k ≤ k' → VW k' s nx ρ v w := by
  cases h with
  | sl tk => exact ⟨_, .sl bs .no, fun s => ⟨Cleans_aBytes _, trivial⟩, fun k' s nx ρ _ => .sl _ _ _ _ (Cleans_aBytes _) (by simp [TkW])⟩
  | ms id off n l tk h1 h2 => exact ⟨_, .ms id off n l tk h1 h2, fun s => hr _ _ h1, fun k' s nx ρ hk => .same _ (Nat.lt_of_lt_of_le (hr _ _ h1) hk)⟩
theorem HasRow.lt (h : HasRow μ row) : ∀ id l, row = some (id, l) → id < μ.blks.length := by
  intro id l e
  have := h id l e
  unfold rowCs at this
  rcases Nat.lt_or_ge id μ.blks.length with hi | hi
  · exact hi
  · simp only [List.getElem?_eq_none hi] at this; cases this
theorem HasRow.of {μ' : AMem} (h : HasRow μ row) (k : ∀ id cs, rowCs μ id = some cs → rowCs μ' id = some cs) : HasRow μ' row := fun id l e => k _ _ (h id l e)
theorem HasRow.put {id : Nat} {ty : TypeId} (hR : HasRow μ row) (hB : IsB row v bs) (hx : μ.blks[id]? = some (.cells ty [v])) (x : ABlk) (lv : List Nat) (nx : Nat) (gl : Nat → Option (List AVal)) (df : List ADef) : HasRow ⟨μ.blks.set id x, lv, nx, gl, df⟩ row := by
  intro rid l e
  have h := hR rid l e
  have hne : id ≠ rid := by
    intro h1
    subst h1
    unfold rowCs at h
    rw [hx] at h
    simp only [Option.some.injEq] at h
    cases l with
    | nil => simp [aBytes] at h
    | cons a l =>
      rw [aBytes_cons] at h
      cases hB <;> simp at h
  unfold rowCs at h ⊢
  simp only [List.getElem?_set_ne hne]
  exact h
theorem rowCs_append {l r : List ABlk} {lv lv' : List Nat} {nx nx' : Nat} {gl : Nat → Option (List AVal)} {df df' : List ADef} {id : Nat} {cs : List AVal} (h : rowCs ⟨l, lv, nx, gl, df⟩ id = some cs) : rowCs ⟨l ++ r, lv', nx', gl, df'⟩ id = some cs := by
  unfold rowCs at h ⊢
  have hi : id < l.length := by
    rcases Nat.lt_or_ge id l.length with hi | hi
    · exact hi
    · simp only [List.getElem?_eq_none hi] at h; cases h
  simp only at h ⊢
  rw [List.getElem?_append_left hi]; exact h
theorem rowCs_set {l : List ABlk} {lv lv' : List Nat} {nx nx' : Nat} {gl : Nat → Option (List AVal)} {df df' : List ADef} {id j : Nat} {x : ABlk} {cs : List AVal} (hj : j ≠ id) (h : rowCs ⟨l, lv, nx, gl, df⟩ id = some cs) : rowCs ⟨l.set j x, lv', nx', gl, df'⟩ id = some cs := by
  unfold rowCs at h ⊢
  simp only at h ⊢
  rw [List.getElem?_set_ne hj]; exact h
end Go.Proofs.YtjleeecaebgblaaGreatDoor.AL
namespace Go.Proofs.YtjleeecaebgblaaGreatDoor.AL
open Go.RowKit
variable {P : Program} {b : Base} {K : AK} {E : AE} {A : ATmps} {μ : AMem}
theorem sy_nili : aeval A (.const .nilIface) = .lit .nilIface := rfl
theorem sy_str (s : ByteArray) : aeval A (.const (.string s)) = .lit (.string s) := rfl
theorem sy_nilp : aeval A (.const (.pointer none)) = .lit (.pointer none) := rfl
theorem sy_nilf : aeval A (.const .nilFunc) = .lit .nilFunc := rfl
theorem len_sl (n : Nat) (cs : List AVal) (tk : Tk) : lenR .sl μ (.sl n cs tk) = ⟨True, .lit (.int .i64 n)⟩ := rfl
theorem len_ms (id off n : Nat) (tk : Tk) : lenR .sl μ (.ms id off n tk) = ⟨True, .lit (.int .i64 n)⟩ := rfl
theorem len_str (s : ByteArray) : lenR .str μ (.lit (.string s)) = ⟨True, .lit (.int .i64 s.size)⟩ := rfl
theorem len_arr (n : Nat) (x : AVal) : lenR (.arr n) μ x = ⟨True, .lit (.int .i64 n)⟩ := rfl
theorem ld_none (d : Ds) : loadR none d = ⟨d.ok ∧ 0 < d.cs.length, d.cs.getD 0 .any⟩ := rfl
theorem ld_some (n : Nat) (d : Ds) : loadR (some n) d = ⟨d.ok ∧ n ≤ d.cs.length, .agg (d.cs.take n)⟩ := rfl
/-- Where a pointer into memory leads. -/
def ptrS (μ : AMem) (id off : Nat) : Ds :=
  match μ.blks[id]? with
  | some (.cells _ cs) => ⟨off < cs.length, cs.drop off⟩
  | some (.row _ cs) => ⟨off < cs.length, cs.drop off⟩
  | _ => ⟨False, []⟩
theorem ld_ptr (id off : Nat) : loadR none (derefS μ (.ptr id off)) = ⟨(ptrS μ id off).ok ∧ 0 < (ptrS μ id off).cs.length, (ptrS μ id off).cs.getD 0 .any⟩ := rfl
theorem ld_ep (cs : List AVal) : loadR none (derefS μ (.ep cs)) = ⟨True ∧ 0 < cs.length, cs.getD 0 .any⟩ := rfl
theorem lds_ptr (n id off : Nat) : loadR (some n) (derefS μ (.ptr id off)) = ⟨(ptrS μ id off).ok ∧ n ≤ (ptrS μ id off).cs.length, .agg ((ptrS μ id off).cs.take n)⟩ := rfl
theorem lds_ep (n : Nat) (cs : List AVal) : loadR (some n) (derefS μ (.ep cs)) = ⟨True ∧ n ≤ cs.length, .agg (cs.take n)⟩ := rfl
theorem sh_ptr (n id off : Nat) : shiftR n (.ptr id off) = ⟨True, .ptr id (off + n)⟩ := rfl
theorem sh_ep (n : Nat) (cs : List AVal) : shiftR n (.ep cs) = ⟨True, .ep (cs.drop n)⟩ := rfl
theorem ix_sl (e sz n : Nat) (cs : List AVal) (tk : Tk) (k : IntKind) (i : Int) : indexAddrR (.sl e sz) (.sl n cs tk) (.lit (.int k i)) = ⟨0 ≤ i ∧ i < n, .ep (cs.drop (i.toNat * sz))⟩ := rfl
theorem ix_ms (e sz id off n : Nat) (tk : Tk) (k : IntKind) (i : Int) : indexAddrR (.sl e sz) (.ms id off n tk) (.lit (.int k i)) = ⟨0 ≤ i ∧ i < n, .ptr id (off + i.toNat * sz)⟩ := rfl
theorem ib_add (k : IntKind) (a c : Int) : intBinR .add k a c = ⟨True, .int k (k.wrap (a + c))⟩ := rfl
theorem ib_sub (k : IntKind) (a c : Int) : intBinR .sub k a c = ⟨True, .int k (k.wrap (a - c))⟩ := rfl
theorem ib_mul (k : IntKind) (a c : Int) : intBinR .mul k a c = ⟨True, .int k (k.wrap (a * c))⟩ := rfl
theorem ib_quo (k : IntKind) (a c : Int) : intBinR .quo k a c = ⟨c ≠ 0, .int k (k.wrap (a.tdiv c))⟩ := rfl
theorem ib_rem (k : IntKind) (a c : Int) : intBinR .rem k a c = ⟨c ≠ 0, .int k (a.tmod c)⟩ := rfl
theorem ib_eql (k : IntKind) (a c : Int) : intBinR .eql k a c = ⟨True, .bool (decide (a = c))⟩ := rfl
theorem ib_neq (k : IntKind) (a c : Int) : intBinR .neq k a c = ⟨True, .bool (!decide (a = c))⟩ := rfl
theorem ib_lss (k : IntKind) (a c : Int) : intBinR .lss k a c = ⟨True, .bool (decide (a < c))⟩ := rfl
theorem ib_leq (k : IntKind) (a c : Int) : intBinR .leq k a c = ⟨True, .bool (decide (a ≤ c))⟩ := rfl
theorem ib_gtr (k : IntKind) (a c : Int) : intBinR .gtr k a c = ⟨True, .bool (decide (c < a))⟩ := rfl
theorem ib_geq (k : IntKind) (a c : Int) : intBinR .geq k a c = ⟨True, .bool (decide (c ≤ a))⟩ := rfl
theorem is_shl (k : IntKind) (a c : Int) : intShiftR .shl k a c = ⟨0 ≤ c, .int k (k.wrap (a * 2 ^ (min c.toNat k.bits)))⟩ := rfl
theorem is_shr (k : IntKind) (a c : Int) : intShiftR .shr k a c = ⟨0 ≤ c, .int k (a.fdiv (2 ^ (min c.toNat k.bits)))⟩ := rfl
theorem bits64 : IntKind.i64.bits = 64 := rfl
theorem vc_sl (n : Nat) (cs : List AVal) (tk : Tk) : vcells (.sl n cs tk) = some [.sl n cs tk] := rfl
theorem vr_sl (n : Nat) (cs : List AVal) (tk : Tk) : vcellsR (.sl n cs tk) = ⟨True, [.sl n cs tk]⟩ := rfl
theorem on_sl (n : Nat) (cs : List AVal) (tk : Tk) : AVal.one (.sl n cs tk) = true := rfl
theorem vc_ptr (id off : Nat) : vcells (.ptr id off) = some [.ptr id off] := rfl
theorem vr_ptr (id off : Nat) : vcellsR (.ptr id off) = ⟨True, [.ptr id off]⟩ := rfl
theorem on_ptr (id off : Nat) : AVal.one (.ptr id off) = true := rfl
theorem vc_ep (cs : List AVal) : vcells (.ep cs) = some [.ep cs] := rfl
theorem vr_ep (cs : List AVal) : vcellsR (.ep cs) = ⟨True, [.ep cs]⟩ := rfl
theorem on_ep (cs : List AVal) : AVal.one (.ep cs) = true := rfl
theorem vc_mp (id : Nat) : vcells (.mp id) = some [.mp id] := rfl
theorem vr_mp (id : Nat) : vcellsR (.mp id) = ⟨True, [.mp id]⟩ := rfl
theorem on_mp (id : Nat) : AVal.one (.mp id) = true := rfl
theorem vc_ms (id off n : Nat) (tk : Tk) : vcells (.ms id off n tk) = some [.ms id off n tk] := rfl
theorem vr_ms (id off n : Nat) (tk : Tk) : vcellsR (.ms id off n tk) = ⟨True, [.ms id off n tk]⟩ := rfl
theorem on_ms (id off n : Nat) (tk : Tk) : AVal.one (.ms id off n tk) = true := rfl
theorem vc_fn (f : Fn) (a c : List AVal) : vcells (.fn f a c) = some [.fn f a c] := rfl
theorem vr_fn (f : Fn) (a c : List AVal) : vcellsR (.fn f a c) = ⟨True, [.fn f a c]⟩ := rfl
theorem on_fn (f : Fn) (a c : List AVal) : AVal.one (.fn f a c) = true := rfl
theorem vc_ifc (t : TypeId) (v : AVal) : vcells (.ifc t v) = some [.ifc t v] := rfl
theorem vr_ifc (t : TypeId) (v : AVal) : vcellsR (.ifc t v) = ⟨True, [.ifc t v]⟩ := rfl
theorem on_ifc (t : TypeId) (v : AVal) : AVal.one (.ifc t v) = true := rfl
theorem vc_int (k : IntKind) (n : Int) : vcells (.lit (.int k n)) = some [.lit (.int k n)] := rfl
theorem vr_int (k : IntKind) (n : Int) : vcellsR (.lit (.int k n)) = ⟨True, [.lit (.int k n)]⟩ := by simp [vcellsR, Value.oneCell']
theorem on_int (k : IntKind) (n : Int) : AVal.one (.lit (.int k n)) = true := rfl
theorem vc_bool (x : Bool) : vcells (.lit (.bool x)) = some [.lit (.bool x)] := rfl
theorem vr_bool (x : Bool) : vcellsR (.lit (.bool x)) = ⟨True, [.lit (.bool x)]⟩ := by simp [vcellsR, Value.oneCell']
theorem on_bool (x : Bool) : AVal.one (.lit (.bool x)) = true := rfl
theorem vc_str (x : ByteArray) : vcells (.lit (.string x)) = some [.lit (.string x)] := rfl
theorem vr_str (x : ByteArray) : vcellsR (.lit (.string x)) = ⟨True, [.lit (.string x)]⟩ := by simp [vcellsR, Value.oneCell']
theorem on_str (x : ByteArray) : AVal.one (.lit (.string x)) = true := rfl
theorem vc_nili  : vcells (.lit .nilIface) = some [.lit .nilIface] := rfl
theorem vr_nili  : vcellsR (.lit .nilIface) = ⟨True, [.lit .nilIface]⟩ := by simp [vcellsR, Value.oneCell']
theorem on_nili  : AVal.one (.lit .nilIface) = true := rfl
theorem vc_nilp  : vcells (.lit (.pointer none)) = some [.lit (.pointer none)] := rfl
theorem vr_nilp  : vcellsR (.lit (.pointer none)) = ⟨True, [.lit (.pointer none)]⟩ := by simp [vcellsR, Value.oneCell']
theorem on_nilp  : AVal.one (.lit (.pointer none)) = true := rfl
theorem vc_nilm  : vcells (.lit (.map none)) = some [.lit (.map none)] := rfl
theorem vr_nilm  : vcellsR (.lit (.map none)) = ⟨True, [.lit (.map none)]⟩ := by simp [vcellsR, Value.oneCell']
theorem on_nilm  : AVal.one (.lit (.map none)) = true := rfl
theorem vc_nilf  : vcells (.lit .nilFunc) = some [.lit .nilFunc] := rfl
theorem vr_nilf  : vcellsR (.lit .nilFunc) = ⟨True, [.lit .nilFunc]⟩ := by simp [vcellsR, Value.oneCell']
theorem on_nilf  : AVal.one (.lit .nilFunc) = true := rfl
theorem vc_agg (cs : List AVal) : vcells (.agg cs) = some cs := rfl
theorem vr_agg (cs : List AVal) : vcellsR (.agg cs) = ⟨True, cs⟩ := rfl
theorem IsB.cell {row : Option (Nat × List UInt8)} {v : AVal} {bs : List UInt8} (h : IsB row v bs) : vcells v = some [v] ∧ vcellsR v = ⟨True, [v]⟩ ∧ v.one = true := by cases h <;> exact ⟨rfl, rfl, rfl⟩
/-! ### slices by the values of their bounds -/
def bndV (o : Option AVal) (d : Nat) : Rn :=
  match o with
  | none => ⟨True, d⟩
  | some (.lit (.int _ i)) => ⟨0 ≤ i, i.toNat⟩
  | some _ => ⟨False, 0⟩
def sliceV (r : Row) (x : AVal) (lo hi mx : Option AVal) : Rs :=
  match r, x, mx with
  | .str, .lit (.string s), none => ⟨((bndV lo 0).ok ∧ (bndV hi s.size).ok) ∧ (bndV lo 0).n ≤ (bndV hi s.size).n ∧ (bndV hi s.size).n ≤ s.size, .lit (.string (s.extract (bndV lo 0).n (bndV hi s.size).n))⟩
  | .sl _ sz, .sl n cs tk, none => ⟨((bndV lo 0).ok ∧ (bndV hi n).ok) ∧ (bndV lo 0).n ≤ (bndV hi n).n ∧ (bndV hi n).n ≤ n,
      .sl ((bndV hi n).n - (bndV lo 0).n) ((cs.drop ((bndV lo 0).n * sz)).take (((bndV hi n).n - (bndV lo 0).n) * sz)) (match tk with | .full => if (bndV hi n).n = n then .full else .no | _ => .no)⟩
  | .sl _ sz, .sl n cs tk, some m => ⟨((bndV lo 0).ok ∧ (bndV hi n).ok ∧ (bndV (some m) 0).ok) ∧ (bndV lo 0).n ≤ (bndV hi n).n ∧ (bndV hi n).n ≤ (bndV (some m) 0).n ∧ (bndV (some m) 0).n ≤ n ∧ hi.isSome = true,
      .sl ((bndV hi n).n - (bndV lo 0).n) ((cs.drop ((bndV lo 0).n * sz)).take (((bndV hi n).n - (bndV lo 0).n) * sz)) (if (bndV (some m) 0).n = (bndV hi n).n then .full else .no)⟩
  | .sl _ sz, .ms id off n tk, none => ⟨((bndV lo 0).ok ∧ (bndV hi n).ok) ∧ (bndV lo 0).n ≤ (bndV hi n).n ∧ (bndV hi n).n ≤ n,
      if (bndV lo 0).n = (bndV hi n).n then .sl 0 [] .no else .ms id (off + (bndV lo 0).n * sz) ((bndV hi n).n - (bndV lo 0).n) (cutTk (decide ((bndV hi n).n = n)) tk)⟩
  | .sl _ sz, .ms id off n tk, some m => ⟨((bndV lo 0).ok ∧ (bndV hi n).ok ∧ (bndV (some m) 0).ok) ∧ (bndV lo 0).n ≤ (bndV hi n).n ∧ (bndV hi n).n ≤ (bndV (some m) 0).n ∧ (bndV (some m) 0).n ≤ n ∧ hi.isSome = true,
      if (bndV lo 0).n = (bndV hi n).n then .sl 0 [] (if (bndV (some m) 0).n = (bndV hi n).n then .full else .no) else .ms id (off + (bndV lo 0).n * sz) ((bndV hi n).n - (bndV lo 0).n) (if (bndV (some m) 0).n = (bndV hi n).n then .full else .no)⟩
  | .arr n _ sz, .ptr id off, none => ⟨((bndV lo 0).ok ∧ (bndV hi n).ok) ∧ (bndV lo 0).n < (bndV hi n).n ∧ (bndV hi n).n ≤ n, .ms id (off + (bndV lo 0).n * sz) ((bndV hi n).n - (bndV lo 0).n) .no⟩
  | _, _, _ => ⟨False, .any⟩
theorem bndR_V (o : Option Operand) (d : Nat) : bndR A o d = bndV (o.map (aeval A)) d := by
  cases o with
  | none => rfl
  | some x =>
    simp only [bndR, bndV, Option.map_some]
    cases aeval A x <;> try rfl
    rename_i v
    cases v <;> rfl
theorem sy_slice (r : Row) (x : AVal) (lo hi mx : Option Operand) : sliceR r A x lo hi mx = sliceV r x (lo.map (aeval A)) (hi.map (aeval A)) (mx.map (aeval A)) := by
  by_cases hs : ∃ v, x = .lit v
  · obtain ⟨v, rfl⟩ := hs
    cases r <;> cases v <;> cases mx <;> simp only [sliceR, sliceV, bndR_V, Option.map_none, Option.map_some, Option.isSome_map]
  · cases x with
    | lit v => exact absurd ⟨v, rfl⟩ hs
    | sl n cs tk => cases r <;> cases mx <;> cases tk <;> simp only [sliceR, sliceV, bndR_V, Option.map_none, Option.map_some, Option.isSome_map]
    | _ => cases r <;> cases mx <;> simp only [sliceR, sliceV, bndR_V, Option.map_none, Option.map_some, Option.isSome_map]
theorem IsB.cut {row : Option (Nat × List UInt8)} {v : AVal} {bs : List UInt8} (h : IsB row v bs) {e : TypeId} {lo hi mx : Option AVal} {i j : Nat} (h1 : bndV lo 0 = ⟨True, i⟩) (h2 : bndV hi bs.length = ⟨True, j⟩) (hij : i ≤ j) (hj : j ≤ bs.length)
    (h3 : mx = none ∨ ∃ m k, mx = some m ∧ hi.isSome = true ∧ bndV (some m) 0 = ⟨True, k⟩ ∧ j ≤ k ∧ k ≤ bs.length) :
    (sliceV (.sl e 1) v lo hi mx).ok = True ∧ IsB row (sliceV (.sl e 1) v lo hi mx).v ((bs.drop i).take (j - i)) := by
  let B : ATmps := fun t => match t with | 0 => lo.getD .any | 1 => hi.getD .any | _ => mx.getD .any
  have e1 : lo = (lo.map fun _ => Operand.tmp 0).map (aeval B) := by cases lo <;> rfl
  have e2 : hi = (hi.map fun _ => Operand.tmp 1).map (aeval B) := by cases hi <;> rfl
  have e3 : mx = (mx.map fun _ => Operand.tmp 2).map (aeval B) := by cases mx <;> rfl
  rw [e1, e2, e3, ← sy_slice]
  refine h.slice (A := B) (by rw [bndR_V, ← e1]; exact h1) (by rw [bndR_V, ← e2]; exact h2) hij hj ?_
  rcases h3 with rfl | ⟨m, k, rfl, hs, h3, hjk, hk⟩
  · exact .inl rfl
  · refine .inr ⟨.tmp 2, k, rfl, by simpa using hs, ?_, hjk, hk⟩
    rw [bndR_V]; exact h3
theorem bndV_nat (k : IntKind) (i d : Nat) : bndV (some (.lit (.int k (i : Nat)))) d = ⟨True, i⟩ := by simp [bndV]
theorem bndV_none (d : Nat) : bndV none d = ⟨True, d⟩ := rfl
/-! ### regions that draw -/
theorem sy_dn (i : Nat) (d : Option Nat) (o : NOp) (rd rc : List Nat) (K : Pend → AK) (pd : Pend) : stepD P E ⟨i, d, none, .n o, rd, rc⟩ K pd A μ =
    ((o.sem (rsA rd A)).ok ∧ K ((i, fun μ' => μ'.blks[μ.blks.length]? = some (o.sem (rsA rd A)).blk) :: pd) (put A d ((o.sem (rsA rd A)).v μ.blks.length)) { μ with blks := μ.blks ++ [(o.sem (rsA rd A)).blk] }) := rfl
theorem sy_de (i : Nat) (d : Option Nat) (o : EOp) (rd rc : List Nat) (K : Pend → AK) (pd : Pend) : stepD P E ⟨i, d, none, .e o, rd, rc⟩ K pd A μ =
    ((o.sem (rsA rd A) μ).ok ∧ rechk rc pd (o.sem (rsA rd A) μ).μ ∧ K pd (put A d (o.sem (rsA rd A) μ).v) (o.sem (rsA rd A) μ).μ) := rfl
theorem sy_dcall (i : Nat) (d : Option Nat) (f : FuncId) (args : List Operand) (rd rc : List Nat) (K : Pend → AK) (pd : Pend) : stepD P E ⟨i, d, none, .call f args, rd, rc⟩ K pd A μ =
    calls P f (args.map (aeval (rsA rd A))) μ fun o' μ' => (μ' = μ ∨ rechk rc pd μ') ∧ afterCallD d A (K pd) E o' μ' := rfl
theorem sy_dgq (i : Nat) (d : Option Nat) (t : Nat) (want : Bool) (o : QOp) (rd rc : List Nat) (K : Pend → AK) (pd : Pend) : stepD P E ⟨i, d, some (t, want), .q o, rd, rc⟩ K pd A μ =
    rg (gdR want (rsA rd A t)) fun p => rsG p (o.sem (stripA p (rsA rd A)) μ) fun v =>
      K ((i, fun μ' => p = true → (o.sem (stripA p (rsA rd A)) μ').ok ∧ .opt p (o.sem (stripA p (rsA rd A)) μ').v = v) :: pd) (put A d v) μ := rfl
theorem sy_rechk0 (rc : List Nat) (μ : AMem) : rechk rc [] μ = True := rfl
theorem sy_rechk (rc : List Nat) (x : Nat × (AMem → Prop)) (l : Pend) (μ : AMem) : rechk rc (x :: l) μ = ((if x.1 ∈ rc then x.2 μ else True) ∧ rechk rc l μ) := rfl
theorem sy_afterD (d : Option Nat) (v : AVal) : afterCallD d A K E (.ret v) μ = K (put A d v) μ := rfl
theorem sy_afterDp (d : Option Nat) (v : AVal) : afterCallD d A K E (.panic v) μ = E (.panic v) A μ := rfl
theorem sy_after (d : Option Nat) (v : AVal) : afterCall d A K E (.ret v) μ = K (put A d v) μ := rfl
theorem sy_afterp (d : Option Nat) (v : AVal) : afterCall d A K E (.panic v) μ = E (.panic v) A μ := rfl
theorem BWs_app {k s nx : Nat} {ρ : Nat → Option Nat} : ∀ {l r r' : List ABlk}, (∀ x ∈ l, CleanB k s x) → BWs k s nx ρ r r' → BWs k s nx ρ (l ++ r) (l ++ r')
  | [], _, _, _, h => h
  | x :: l, _, _, h, hr => .cons _ _ _ _ (.same _ (h x (by simp))) (BWs_app (fun y hy => h y (by simp [hy])) hr)
theorem sy_hideE (ds : List Nat) (e : AExit) : hideE ds E e A μ = E e (hideA ds A) μ := rfl
theorem sy_hideA (ds : List Nat) (t : Nat) : hideA ds A t = if ds.contains t then .any else A t := rfl
theorem sy_blockP (id : Nat) (v : AVal) : blockE id K E (.panic v) A μ = E (.panic v) A μ := rfl
theorem app_sl {e : TypeId} {sz bytes n m : Nat} {cs ds : List AVal} {tk tk' : Tk} (hc : CanApp e μ.lv tk) (h1 : cs.length = n * sz) (h2 : ds.length = m * sz) (h3 : (n + m) * bytes ≤ 140737488355328) (h4 : ds.all AVal.one = true) :
    appendR e sz bytes μ (.sl n cs tk) (.sl m ds tk') = ⟨True, .sl (n + m) (cs ++ ds) (.own μ.nx e), { μ with lv := μ.nx :: appLv μ.lv tk, nx := μ.nx + 1 }⟩ := by
  have : (cs.length = n * sz ∧ ds.length = m * sz ∧ (n + m) * bytes ≤ 140737488355328 ∧ CanApp e μ.lv tk ∧ ds.all AVal.one = true) = True := eq_true ⟨h1, h2, h3, hc, h4⟩
  simp only [appendR, asrc, this]
theorem VWs.same {k s nx : Nat} {ρ : Nat → Option Nat} : ∀ {cs : List AVal}, Cleans k s cs → VWs k s nx ρ cs cs
  | [], _ => .nil
  | c :: cs, h => by simp only [Cleans] at h; exact .cons _ _ _ _ (.same _ h.1) (VWs.same h.2)
theorem VWs.append {k s nx : Nat} {ρ : Nat → Option Nat} : ∀ {as as' cs cs' : List AVal}, VWs k s nx ρ as as' → VWs k s nx ρ cs cs' → VWs k s nx ρ (as ++ cs) (as' ++ cs')
  | _, _, _, _, .nil, h => h
  | _, _, _, _, .cons _ _ _ _ h1 h2, h => .cons _ _ _ _ h1 (VWs.append h2 h)
theorem Less.agg {cs cs' : List AVal} (h : Lesses cs cs') : Less (.agg cs) (.agg cs') :=
  ⟨fun g cv k => by simp only [VR] at k ⊢; obtain ⟨vs, e, k⟩ := k; exact ⟨vs, e, h.vr k⟩, fun k s hc => by simp only [Clean] at hc ⊢; exact h.cl hc⟩
/-! ### panics, deferred calls -/
def panicR (x : AVal) (k : AVal → Prop) : Prop :=
  match x with
  | .ifc t v => k (.ifc t v)
  | _ => False
theorem sy_panic (i : Nat) (d : Option Nat) (x : Operand) (rd rc : List Nat) : stepT P E ⟨i, d, none, .panic x, rd, rc⟩ K A μ = panicR (aeval A x) fun v => E (.panic v) A μ := by
  show aCall P (.panic x) A μ (afterCall d A K E) = _
  simp only [aCall, panicR]
  cases aeval A x <;> rfl
theorem sy_deferR (l : List AStep) (x : Operand) (args : List Operand) : awp P b (.deferR l x args) K E A μ = stepsT P E l (fun A μ => aDefer P b.r (aeval A x) (args.map (aeval A)) μ fun μ' => K A μ') A μ := rfl
theorem sy_callv (i : Nat) (d : Option Nat) (x : Operand) (args : List Operand) (rd rc : List Nat) : stepT P E ⟨i, d, none, .callv x args, rd, rc⟩ K A μ =
    callvR (aeval A x) (args.map (aeval A)) (fun f l => calls P f l μ (afterCall d A K E)) (fun id l => ARounds P id l μ (afterCall d A K E)) := rfl
/-! ### calls that change memory -/
/-- Memory as a walk meets it. -/
structure Fine (μ : AMem) : Prop where
  wf : WFm μ
  ll : ∀ r, r ∈ μ.lv → r < μ.nx
  nd : μ.lv.Nodup
theorem calls.step {f : FuncId} {args : List AVal} {Q Q' : AOut → AMem → Prop} (h : calls P f args μ Q) (k : ∀ o μ', Q o μ' → Fine μ' → Clean μ'.blks.length μ'.nx o.val → μ.nx ≤ μ'.nx → Q' o μ') : calls P f args μ Q' :=
  ⟨h.1, ⟨fun g w cargs hs hw hc ha => (h.2.out g w cargs hs hw hc ha).mono fun e w' ⟨o, μ', g', hq, hst, hsim, ho, hwf, hcl, hnx, hdf⟩ =>
    ⟨o, μ', g', k o μ' hq ⟨hwf, hsim.ll, hsim.nd⟩ hcl hnx, hst, hsim, ho, hwf, hcl, hnx, hdf⟩⟩⟩
theorem calls.with (hm : P.follows .mixedOrders = true) {f : FuncId} {F : AFn} (hF : callable P f = true ∧ ∃ mu, mkFn P mu f = some F) {args : List AVal} {Q : AOut → AMem → Prop} (hl : args.length ≤ F.ntmps)
    (h : Fine μ → Cleans μ.blks.length μ.nx args → awp P ⟨μ.blks.length, μ.nx, none⟩ F.body (retK P ⟨μ.blks.length, μ.nx, none⟩ F.results fun o μ' => Q o (μ'.bare μ.df)) (retE P ⟨μ.blks.length, μ.nx, none⟩ F.results fun o μ' => Q o (μ'.bare μ.df)) (A0 args) (μ.bare [])) : calls P f args μ Q := by
  obtain ⟨hc, mu, hF⟩ := hF
  exact ⟨hc, ⟨fun g w cargs hs hw hcl hv => (ACalls.of hm hF hl fun hw hcl => h ⟨hw, hs.ll, hs.nd⟩ hcl).out g w cargs hs hw hcl hv⟩⟩
theorem calls.go (hm : P.follows .mixedOrders = true) {f : FuncId} {F : AFn} (hF : callable P f = true ∧ ∃ mu, mkFn P mu f = some F) {args : List AVal} {blks : List ABlk} {lv : List Nat} {nx : Nat} {gl : Nat → Option (List AVal)} {df : List ADef} {Q : AOut → AMem → Prop} (hl : args.length ≤ F.ntmps)
    (h : ∀ R : AOut → AMem → Prop, (∀ o l lv nx gl d, Q o ⟨l, lv, nx, gl, df⟩ → R o ⟨l, lv, nx, gl, d⟩) → Fine ⟨blks, lv, nx, gl, df⟩ → Cleans blks.length nx args →
      awp P ⟨blks.length, nx, none⟩ F.body (retK P ⟨blks.length, nx, none⟩ F.results R) (retE P ⟨blks.length, nx, none⟩ F.results R) (A0 args) ⟨blks, lv, nx, gl, []⟩) : calls P f args ⟨blks, lv, nx, gl, df⟩ Q :=
  calls.with hm hF hl fun hf hc => h (fun o μ' => Q o (μ'.bare df)) (fun o l lv nx gl d hq => hq) hf hc
/-- Loops that leave memory. -/
theorem Wk.keep {L : List (Nat × AVal)} {l : List ABlk} {lv : List Nat} {nx : Nat} {gl : Nat → Option (List AVal)} {r : Option Nat} {k : Nat} (hk : k ≤ l.length) (hB : ∀ x ∈ l, CleanB l.length nx x) (hll : ∀ r, r ∈ lv → r < nx) (hnd : lv.Nodup)
    (hv : VWL l.length nx nx (ρG nx []) A L) : Wk ⟨k, nx, r⟩ A ⟨l, lv, nx, gl, []⟩ (atL L) ⟨l, lv, nx, gl, []⟩ := by
  have := Wk.gen (A := A) (L := L) (b := ⟨k, nx, r⟩) (l := l) (l' := l) (lv := lv) (nx := nx) (gl := gl) (df := []) lv [] hk (fun r hr => ⟨hll r hr, hr⟩) hnd (fun r hr => by cases hr) Apart.nil (fun d hd => by cases hd)
    (by have := BWs_same (k := l.length) (s := nx) (nx := nx) (ρ := ρG nx []) (l := l) (r := []) hB; simpa using this) hv.all
  simpa using this
/-- LEAVING, what was made meanwhile forgotten. -/
theorem retD {k0 s0 : Nat} {l junk : List ABlk} {lv lv0 : List Nat} {nx : Nat} {gl : Nat → Option (List AVal)} {res : List RV} {v : AVal} {Q : AOut → AMem → Prop} (hok : (retVs A ⟨l ++ junk, lv, nx, gl, []⟩ res).ok) (hk : k0 ≤ l.length)
    (hlv : ∀ r ∈ lv0, r < s0 ∧ r ∈ lv) (hnd : lv0.Nodup) (hB : ∀ x ∈ l, CleanB l.length s0 x) (hw : VW l.length s0 s0 (ρG s0 []) (oneOr (retVs A ⟨l ++ junk, lv, nx, gl, []⟩ res).cs) v) (hq : Q (.ret v) ⟨l, lv0, s0, gl, []⟩) :
    retK P ⟨k0, s0, none⟩ res Q A ⟨l ++ junk, lv, nx, gl, []⟩ := by
  refine ⟨hok, .inr ⟨v, ⟨l, lv0, s0, gl, []⟩, ⟨ρG s0 [], ?_, hw⟩, hq⟩⟩
  have := MW.gen (b := ⟨k0, s0, none⟩) (l := l ++ junk) (l' := l) (lv := lv) (nx := nx) (gl := gl) (df := []) lv0 [] hk hlv hnd (fun r hr => by cases hr) Apart.nil (fun d hd => by cases hd) (BWs_same hB)
  simpa [AMem.bare] using this
theorem retDp {k0 s0 : Nat} {l junk : List ABlk} {lv lv0 : List Nat} {nx : Nat} {gl : Nat → Option (List AVal)} {res : List RV} {v v' : AVal} {Q : AOut → AMem → Prop} (hk : k0 ≤ l.length)
    (hlv : ∀ r ∈ lv0, r < s0 ∧ r ∈ lv) (hnd : lv0.Nodup) (hB : ∀ x ∈ l, CleanB l.length s0 x) (hw : VW l.length s0 s0 (ρG s0 []) v v') (hq : Q (.panic v') ⟨l, lv0, s0, gl, []⟩) :
    retE P ⟨k0, s0, none⟩ res Q (.panic v) A ⟨l ++ junk, lv, nx, gl, []⟩ := by
  refine .inr ⟨v', ⟨l, lv0, s0, gl, []⟩, ⟨ρG s0 [], ?_, hw⟩, hq⟩
  have := MW.gen (b := ⟨k0, s0, none⟩) (l := l ++ junk) (l' := l) (lv := lv) (nx := nx) (gl := gl) (df := []) lv0 [] hk hlv hnd (fun r hr => by cases hr) Apart.nil (fun d hd => by cases hd) (BWs_same hB)
  simpa [AMem.bare] using this
theorem retD0 {k0 s0 : Nat} {l : List ABlk} {lv lv0 : List Nat} {nx : Nat} {gl : Nat → Option (List AVal)} {res : List RV} {v : AVal} {Q : AOut → AMem → Prop} (hok : (retVs A ⟨l, lv, nx, gl, []⟩ res).ok) (hk : k0 ≤ l.length)
    (hlv : ∀ r ∈ lv0, r < s0 ∧ r ∈ lv) (hnd : lv0.Nodup) (hB : ∀ x ∈ l, CleanB l.length s0 x) (hw : VW l.length s0 s0 (ρG s0 []) (oneOr (retVs A ⟨l, lv, nx, gl, []⟩ res).cs) v) (hq : Q (.ret v) ⟨l, lv0, s0, gl, []⟩) :
    retK P ⟨k0, s0, none⟩ res Q A ⟨l, lv, nx, gl, []⟩ := by
  have := retD (P := P) (A := A) (junk := []) (k0 := k0) (res := res) (v := v) (Q := Q) (l := l) (lv := lv) (nx := nx) (gl := gl) (by rw [List.append_nil]; exact hok) hk hlv hnd hB (by rw [List.append_nil]; exact hw) hq
  rwa [List.append_nil] at this
end Go.Proofs.YtjleeecaebgblaaGreatDoor.AL
namespace Go.Proofs.YtjleeecaebgblaaGreatDoor.AL
open Go.RowKit
/-- Types without pointers. -/
inductive Ty where
  | bool
  | int (k : IntKind)
  | str
  | sl (e : Ty)
  | st (fs : List Ty)
mutual
/-- Values of such a type. -/
inductive Sh : Ty → List AVal → Prop
  | bool (b : Bool) : Sh .bool [.lit (.bool b)]
  | int (k : IntKind) (n : Int) : (Lit.int k n).wf = true → Sh (.int k) [.lit (.int k n)]
  | str (s : ByteArray) : s.size ≤ maxLen → Sh .str [.lit (.string s)]
  | sl (e : Ty) (ls : List (List AVal)) : ls.length ≤ maxLen → (∀ l, l ∈ ls → Sh e l) → Sh (.sl e) [.sl ls.length ls.flatten .no]
  | st (fs : List Ty) (cs : List AVal) : Shs fs cs → Sh (.st fs) cs
inductive Shs : List Ty → List AVal → Prop
  | nil : Shs [] []
  | cons (f : Ty) (fs : List Ty) (c cs : List AVal) : Sh f c → Shs fs cs → Shs (f :: fs) (c ++ cs)
end
mutual
def Ty.fits (P : Program) : Ty → TypeId → Bool
  | .bool, t => match P.underlying t with
    | some .bool => true
    | _ => false
  | .int k, t => match P.underlying t with
    | some (.int k') => decide (k' = k)
    | _ => false
  | .str, t => match P.underlying t with
    | some .string => true
    | _ => false
  | .sl e, t => match P.underlying t with
    | some (.slice e') => e.fits P e' && decide (0 < P.cellsOf e')
    | _ => false
  | .st fs, t => match P.underlying t with
    | some (.struct gs) => Ty.fitsL P fs gs.toList 0 (P.cellsOf t)
    | _ => false
def Ty.fitsL (P : Program) : List Ty → List Field → Nat → Nat → Bool
  | [], [], o, n => decide (o = n)
  | f :: fs, g :: gs, o, n => f.fits P g.type && decide (g.offset = o) && Ty.fitsL P fs gs (o + P.cellsOf g.type) n
  | _, _, _, _ => false
end
/-- What the heap holds, and no more is known. -/
def ghost (W : World) : Gh where
  φ := fun _ => none
  H := fun b o => match W.heap[b]? with
    | some (.cells cs _ _) => cs[o]?
    | _ => none
  T := fun _ => none
  Cp := fun _ => none
theorem ghost_cell {W : World} {a : Addr} {v : Value} (h : W.cell? a = some v) : (ghost W).H a.block a.off = some v ∧ a.spot = none := by
  simp only [World.cell?] at h
  simp only [ghost]
  split at h
  · rename_i c t fr hc
    split at h
    · cases h
    · rename_i hs
      simp only [hc]
      exact ⟨h, by simpa using hs⟩
  · cases h
theorem cells?_get {W : World} {base : Nat} {a : Addr} {n : Nat} {cs : List Value} (h : W.cells? base a n = some cs) : cs.length = n ∧ ∀ j, j < n → W.cell? (a.add j) = cs[j]? := by
  unfold World.cells? at h
  split at h
  · refine ⟨by simpa using mapM_some_length h, fun j hj => ?_⟩
    exact mapM_some_get h j j (by simp [hj])
  · cases h
section
variable {H : Type} {enc : TypeId × Value → H} {P : Program} {w : World} {base : Nat} {spare : Nat → Bool} {held : Bool}
theorem open_fields {n : Nat} (ih : ∀ (τ : Ty) (t : TypeId) (cs : List Value) (x : DataW H × List MemPlace), τ.fits P t = true → DataW.trod enc P w base spare held n t cs = some x → ∃ as, Sh τ as ∧ VRs (ghost w) as cs) {cs : List Value} :
    ∀ (fs : List Ty) (gs : List Field) (o : Nat), Ty.fitsL P fs gs o cs.length = true → (∀ g ∈ gs, ∃ y, DataW.trod enc P w base spare held n g.type ((cs.drop g.offset).take (P.cellsOf g.type)) = some y) → ∃ as, Shs fs as ∧ VRs (ghost w) as (cs.drop o)
  | [], [], o, h, _ => by
    simp only [Ty.fitsL, decide_eq_true_eq] at h
    subst h
    exact ⟨[], .nil, by simp [VRs]⟩
  | f :: fs, g :: gs, o, h, hg => by
    simp only [Ty.fitsL, Bool.and_eq_true, decide_eq_true_eq] at h
    obtain ⟨⟨h1, rfl⟩, h2⟩ := h
    obtain ⟨y, hy⟩ := hg g (by simp)
    obtain ⟨as, hs, hv⟩ := ih f g.type _ y h1 hy
    obtain ⟨bs, ht, hw⟩ := open_fields ih fs gs _ h2 fun g' hg' => hg g' (by simp [hg'])
    refine ⟨as ++ bs, .cons _ _ _ _ hs ht, ?_⟩
    have := hv.append hw
    rwa [← List.drop_drop, List.take_append_drop] at this
  | [], _ :: _, _, h, _ => by simp [Ty.fitsL] at h
  | _ :: _, [], _, h, _ => by simp [Ty.fitsL] at h
/-- WHAT A STATEMENT HANDS OVER, by value. -/
theorem open_sh : ∀ (fuel : Nat) (τ : Ty) (t : TypeId) (cs : List Value) (x : DataW H × List MemPlace), τ.fits P t = true → DataW.trod enc P w base spare held fuel t cs = some x → ∃ as, Sh τ as ∧ VRs (ghost w) as cs := by
  intro fuel
  induction fuel with
  | zero => intro τ t cs x _ h; simp [DataW.trod] at h
  | succ n ih =>
    intro τ t cs x hf h
    cases τ with
    | bool =>
      simp only [Ty.fits] at hf
      split at hf
      · rename_i hu
        obtain ⟨b, rfl, _⟩ := DataW.trod_bool hu h
        exact ⟨_, .bool b, by simp [VRs, VR]⟩
      · cases hf
    | int k =>
      simp only [Ty.fits] at hf
      split at hf
      · rename_i k' hu
        simp only [decide_eq_true_eq] at hf
        subst hf
        obtain ⟨m, rfl, _, hw⟩ := DataW.trod_int hu h
        exact ⟨_, .int _ m hw, by simp [VRs, VR]⟩
      · cases hf
    | str =>
      simp only [Ty.fits] at hf
      split at hf
      · rename_i hu
        obtain ⟨s, rfl, _, hw⟩ := DataW.trod_string hu h
        exact ⟨_, .str s hw, by simp [VRs, VR]⟩
      · cases hf
    | st fs =>
      simp only [Ty.fits] at hf
      split at hf
      · rename_i gs hu
        obtain ⟨xs, m, hm, _, hl, hxl, hx⟩ := DataW.trod_struct hu h
        cases hm
        rw [← hl] at hf
        obtain ⟨as, h1, h2⟩ := open_fields ih fs gs.toList 0 hf fun g hg => by
          obtain ⟨i, hi, he⟩ := List.getElem_of_mem hg
          have hi' : i < gs.size := by simpa using hi
          have := hx i g (by rw [Array.getElem?_eq_getElem hi']; simpa using he)
          exact ⟨xs[i]'(by omega), by rw [this]; exact List.getElem?_eq_getElem _⟩
        exact ⟨as, .st _ _ h1, by simpa using h2⟩
      · cases hf
    | sl e =>
      simp only [Ty.fits] at hf
      split at hf
      · rename_i e' hu
        simp only [Bool.and_eq_true, decide_eq_true_eq] at hf
        obtain ⟨he, hk⟩ := hf
        rcases DataW.trod_slice hu h with ⟨rfl, _⟩ | ⟨a, len, cap, elems, rest, m, hm, rfl, _, _, hlc, hcm, hlen, hel, _, _⟩
        · exact ⟨_, .sl e [] (by simp) (fun l hl => by cases hl), by simp [VRs, VR, TkR]⟩
        · cases hm
          have each : ∀ i, i < len → ∃ cs' as, w.cells? base (a.add (i * P.cellsOf e')) (P.cellsOf e') = some cs' ∧ Sh e as ∧ VRs (ghost w) as cs' := by
            intro i hi
            have := hel i hi
            rw [List.getElem?_eq_getElem (by omega)] at this
            obtain ⟨cs', h1, h2⟩ := Option.bind_eq_some_iff.1 this
            obtain ⟨as, h3, h4⟩ := ih e e' cs' _ he h2
            exact ⟨cs', as, h1, h3, h4⟩
          have hoff : ∀ i j, ((a.add i).add j).block = a.block ∧ ((a.add i).add j).off = a.off + (i + j) := by
            intro i j
            simp only [Addr.add]
            constructor <;> (repeat' split) <;> simp_all <;> omega
          have build : ∀ k, k ≤ len → ∃ ls : List (List AVal), ls.length = k ∧ (∀ l, l ∈ ls → Sh e l) ∧ ls.flatten.length = k * P.cellsOf e' ∧ VC (ghost w) a.block a.off ls.flatten := by
            intro k
            induction k with
            | zero => intro _; exact ⟨[], rfl, ⟨fun l hl => (by cases hl), by simp, by simp [VC]⟩⟩
            | succ k ihk =>
              intro hk'
              obtain ⟨ls, h1, h2, h3, h4⟩ := ihk (by omega)
              obtain ⟨cs', as, hc, hs, hv⟩ := each k (by omega)
              obtain ⟨hcl, hcg⟩ := cells?_get hc
              have hal := hv.length
              refine ⟨ls ++ [as], by simp [h1], ?_, by simp [h3, Nat.succ_mul]; omega, ?_⟩
              · intro l hl
                rcases List.mem_append.1 hl with hl | hl
                · exact h2 l hl
                · rw [List.mem_singleton.1 hl]; exact hs
              · rw [List.flatten_append]
                refine h4.append ?_
                simp only [List.flatten_cons, List.flatten_nil, List.append_nil, h3]
                refine VC.of fun i x hx => ?_
                obtain ⟨v, hv1, hv2⟩ := hv.get i x hx
                have hi : i < P.cellsOf e' := by rw [← hcl]; exact (List.getElem?_eq_some_iff.1 hv1).1
                have := ghost_cell ((hcg i hi).trans hv1)
                rw [(hoff _ _).1, (hoff _ _).2] at this
                exact ⟨v, by rw [← this.1]; congr 1; omega, hv2⟩
          obtain ⟨ls, h1, h2, h3, h4⟩ := build len (Nat.le_refl _)
          refine ⟨_, .sl e ls (by rw [h1]; omega) h2, ?_⟩
          simp only [VRs]
          refine ⟨_, [], rfl, ?_, rfl⟩
          simp only [VR]
          refine ⟨some a, cap, by rw [h1], by rw [h1]; exact hlc, trivial, ?_⟩
          rcases Nat.eq_zero_or_pos len with h0 | h0
          · left
            rw [h0] at h1
            have := List.length_eq_zero_iff.1 h1
            subst this
            exact ⟨rfl, rfl⟩
          · right
            obtain ⟨cs', as, hc, _, _⟩ := each 0 h0
            obtain ⟨hcl, hcg⟩ := cells?_get hc
            have h00 := hcg 0 hk
            rw [List.getElem?_eq_getElem (by omega)] at h00
            have hs := (ghost_cell h00).2
            have ha : (a.add (0 * P.cellsOf e')).add 0 = a := by simp [Addr.add]
            rw [ha] at hs
            obtain ⟨b, o, sp⟩ := a
            have hs : sp = none := hs
            subst hs
            exact ⟨b, o, rfl, h4⟩
      · cases hf
end
end Go.Proofs.YtjleeecaebgblaaGreatDoor.AL
