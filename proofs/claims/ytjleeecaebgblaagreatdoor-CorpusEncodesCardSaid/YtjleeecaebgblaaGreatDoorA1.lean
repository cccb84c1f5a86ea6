/- Values and memory, abstractly: what stands for a value, for the heap; operations on them. -/
import Derived.CallsIn
import Derived.RangeFuncIn
import Derived.Below
import Derived.WalkKit
import Derived.Deep.MidRow
set_option linter.all false
namespace Go.Proofs.YtjleeecaebgblaaGreatDoor.AL
open Go.RowKit
/-- May a slice be appended to? 'no': nothing is known · 'full': its capacity is its length · 'own s e': it ends where stamp s's row (of element type e) ends · 'row': it is all of a row of the abstract memory. -/
inductive Tk where
  | no
  | full
  | own (s : Nat) (e : TypeId)
  | row
/-- Abstract values. 'sl': a slice BY VALUE (its cells, one behind the other); 'ptr': into the abstract memory; 'ep': to cells that never change; 'ms': a slice over a block of the abstract memory. -/
inductive AVal where
  | any
  | lit (v : Value)
  | agg (cs : List AVal)
  | tup (cs : List AVal)
  | sl (n : Nat) (cs : List AVal) (tk : Tk)
  | ptr (id off : Nat)
  | ep (cs : List AVal)
  | mp (id : Nat)
  | ms (id off n : Nat) (tk : Tk)
  | glob (b off : Nat)
  | fn (f : Fn) (first captured : List AVal)
  | ifc (t : TypeId) (v : AVal)
  | opt (b : Bool) (v : AVal)
  | yld (id : Nat)
  | stp (s : Nat)
/-- A jump that a round of a range over a function leaves behind. -/
inductive AJump where
  | ret
  | exit (id : Nat)
  | goto (l : Nat)
def AJump.code : AJump → Code
  | .ret => .ret
  | .exit id => .exit id
  | .goto l => .goto l
/-- The record of a range over a function. 'is': what is known of its two codes. -/
structure ALoop where
  st : LoopState
  pend : Option AJump
  n : Nat
  tmps : Nat → AVal
  ps : List Tmp
  is : Code → Code → Prop
/-- The kind of a map's keys. -/
inductive KeyK where
  | str
  | int (k : IntKind)
  | bool
deriving DecidableEq
inductive ABlk where
  | cells (t : TypeId) (cs : List AVal)
  | map (kk : KeyK) (es : List (Value × AVal))
  | row (e : TypeId) (cs : List AVal)
  | dead
  | loop (L : ALoop)
  | dfr
  | mapP (kk : KeyK) (es : List (Value × AVal)) (k : Value) (s : Nat)
/-- Deferred calls of a frame: the mark of a range over a function (its block), or a function's call. -/
inductive ADef where
  | mark (id : Nat)
  | fn (f : FuncId) (args : List AVal)
structure AMem where
  blks : List ABlk
  lv : List Nat
  nx : Nat
  gl : Nat → Option (List AVal)
  df : List ADef
/-- What abstract names stand for: blocks of the abstract memory; cells that never change; the rows of stamps (block, capacity, cells so far, element type); the capacities of the abstract memory's rows. -/
structure Gh where
  φ : Nat → Option Nat
  H : Nat → Nat → Option Value
  T : Nat → Option (Nat × Nat × Nat × TypeId)
  Cp : Nat → Option Nat
def TkR (g : Gh) (n : Nat) (len : Nat) (A : Option Addr) (c : Nat) : Tk → Prop
  | .no => True
  | .full => c = n
  | .row => False
  | .own s e => c = n ∨ ∃ b, A = some ⟨b, 0, none⟩ ∧ g.T s = some (b, c, len, e)
def TkM (g : Gh) (id off n c : Nat) : Tk → Prop
  | .full => c = n
  | .row => off = 0 ∧ g.Cp id = some c
  | _ => True
mutual
def VR (g : Gh) : AVal → Value → Prop
  | .any, _ => True
  | .lit v, cv => cv = v
  | .agg cs, cv => ∃ vs, cv = .agg ⟨vs⟩ ∧ VRs g cs vs
  | .tup cs, cv => ∃ vs, cv = .tuple ⟨vs⟩ ∧ VRs g cs vs
  | .sl n cs tk, cv => ∃ A c, cv = .slice A n c ∧ n ≤ c ∧ TkR g n cs.length A c tk ∧ ((n = 0 ∧ cs = []) ∨ ∃ b o, A = some ⟨b, o, none⟩ ∧ VC g b o cs)
  | .ptr id off, cv => ∃ b, g.φ id = some b ∧ cv = .pointer (some ⟨b, off, none⟩)
  | .ep cs, cv => ∃ b o, cv = .pointer (some ⟨b, o, none⟩) ∧ VC g b o cs
  | .mp id, cv => ∃ b, g.φ id = some b ∧ cv = .map (some b)
  | .ms id off n tk, cv => ∃ b c, g.φ id = some b ∧ cv = .slice (some ⟨b, off, none⟩) n c ∧ n ≤ c ∧ TkM g id off n c tk
  | .fn f fs cs, cv => ∃ vs us, cv = .func f ⟨vs⟩ ⟨us⟩ ∧ VRs g fs vs ∧ VRs g cs us
  | .ifc t v, cv => ∃ x, cv = .iface t x ∧ VR g v x
  | .glob b off, cv => cv = .pointer (some ⟨b, off, none⟩)
  | .opt b v, cv => (b = true → VR g v cv) ∧ (b = false → cv = undef)
  | .yld id, cv => ∃ b, g.φ id = some b ∧ cv = .func (.yield b) ⟨[]⟩ ⟨[]⟩
  | .stp s, cv => ∃ b born n e, g.T s = some (b, born, n, e) ∧ cv = .int .i64 (born : Nat)
def VRs (g : Gh) : List AVal → List Value → Prop
  | [], vs => vs = []
  | c :: cs, vs => ∃ v vs', vs = v :: vs' ∧ VR g c v ∧ VRs g cs vs'
def VC (g : Gh) (b : Nat) : Nat → List AVal → Prop
  | _, [] => True
  | o, c :: cs => (∃ x, g.H b o = some x ∧ VR g c x) ∧ VC g b (o + 1) cs
end
/-- What is known grows. -/
structure Gh.le (g g' : Gh) : Prop where
  φ : ∀ i b, g.φ i = some b → g'.φ i = some b
  H : ∀ b o x, g.H b o = some x → g'.H b o = some x
  T : ∀ s x, g.T s = some x → g'.T s = some x
  Cp : ∀ i c, g.Cp i = some c → g'.Cp i = some c
theorem Gh.le.refl (g : Gh) : g.le g := ⟨fun _ _ h => h, fun _ _ _ h => h, fun _ _ h => h, fun _ _ h => h⟩
theorem Gh.le.trans {a b c : Gh} (h : a.le b) (k : b.le c) : a.le c :=
  ⟨fun i x e => k.φ i x (h.φ i x e), fun i o x e => k.H i o x (h.H i o x e), fun s x e => k.T s x (h.T s x e), fun i c e => k.Cp i c (h.Cp i c e)⟩
theorem TkR.mono {g g' : Gh} (h : g.le g') {n len : Nat} {A : Option Addr} {c : Nat} : ∀ {tk : Tk}, TkR g n len A c tk → TkR g' n len A c tk
  | .no, _ => trivial
  | .full, k => k
  | .own s e, k => k.imp id fun ⟨b, e1, e2⟩ => ⟨b, e1, h.T _ _ e2⟩
  | .row, k => k
theorem TkM.mono {g g' : Gh} (h : g.le g') {id off n c : Nat} : ∀ {tk : Tk}, TkM g id off n c tk → TkM g' id off n c tk
  | .no, k => k
  | .full, k => k
  | .own _ _, k => k
  | .row, k => ⟨k.1, h.Cp _ _ k.2⟩
mutual
theorem VR.mono {g g' : Gh} (h : g.le g') : ∀ (a : AVal) (cv : Value), VR g a cv → VR g' a cv
  | .any, _, _ => by simp [VR]
  | .lit _, _, k => by simpa [VR] using k
  | .agg cs, cv, k => by
    simp only [VR] at k ⊢; obtain ⟨vs, e, k⟩ := k; exact ⟨vs, e, VRs.mono h cs vs k⟩
  | .tup cs, cv, k => by
    simp only [VR] at k ⊢; obtain ⟨vs, e, k⟩ := k; exact ⟨vs, e, VRs.mono h cs vs k⟩
  | .sl n cs tk, cv, k => by
    simp only [VR] at k ⊢; obtain ⟨A, c, e, hn, ht, k⟩ := k
    exact ⟨A, c, e, hn, ht.mono h, k.imp id fun ⟨b, o, e, k⟩ => ⟨b, o, e, VC.mono h b cs o k⟩⟩
  | .ptr id off, cv, k => by
    simp only [VR] at k ⊢; obtain ⟨b, e, k⟩ := k; exact ⟨b, h.φ _ _ e, k⟩
  | .ep cs, cv, k => by
    simp only [VR] at k ⊢; obtain ⟨b, o, e, k⟩ := k; exact ⟨b, o, e, VC.mono h b cs o k⟩
  | .mp id, cv, k => by
    simp only [VR] at k ⊢; obtain ⟨b, e, k⟩ := k; exact ⟨b, h.φ _ _ e, k⟩
  | .ms id off n tk, cv, k => by
    simp only [VR] at k ⊢; obtain ⟨b, c, e, k1, k2, k3⟩ := k; exact ⟨b, c, h.φ _ _ e, k1, k2, k3.mono h⟩
  | .fn f fs cs, cv, k => by
    simp only [VR] at k ⊢; obtain ⟨vs, us, e, k1, k2⟩ := k; exact ⟨vs, us, e, VRs.mono h fs vs k1, VRs.mono h cs us k2⟩
  | .ifc t v, cv, k => by
    simp only [VR] at k ⊢; obtain ⟨x, e, k⟩ := k; exact ⟨x, e, VR.mono h v x k⟩
  | .glob _ _, cv, k => by simpa [VR] using k
  | .opt b v, cv, k => by
    simp only [VR] at k ⊢; exact ⟨fun hb => VR.mono h v cv (k.1 hb), k.2⟩
  | .yld id, cv, k => by
    simp only [VR] at k ⊢; obtain ⟨b, e, k⟩ := k; exact ⟨b, h.φ _ _ e, k⟩
  | .stp s, cv, k => by
    simp only [VR] at k ⊢; obtain ⟨b, born, n, e, k1, k2⟩ := k; exact ⟨b, born, n, e, h.T _ _ k1, k2⟩
theorem VRs.mono {g g' : Gh} (h : g.le g') : ∀ (as : List AVal) (vs : List Value), VRs g as vs → VRs g' as vs
  | [], _, k => by simpa [VRs] using k
  | a :: as, vs, k => by
    simp only [VRs] at k ⊢; obtain ⟨v, vs', e, k1, k2⟩ := k; exact ⟨v, vs', e, VR.mono h a v k1, VRs.mono h as vs' k2⟩
theorem VC.mono {g g' : Gh} (h : g.le g') (b : Nat) : ∀ (as : List AVal) (o : Nat), VC g b o as → VC g' b o as
  | [], _, _ => by simp [VC]
  | a :: as, o, k => by
    simp only [VC] at k ⊢; obtain ⟨⟨x, e, k1⟩, k2⟩ := k; exact ⟨⟨x, h.H _ _ _ e, VR.mono h a x k1⟩, VC.mono h b as (o + 1) k2⟩
end
/-! ### lists -/
theorem VRs.length {g : Gh} : ∀ {as : List AVal} {vs : List Value}, VRs g as vs → vs.length = as.length
  | [], _, k => by simp only [VRs] at k; simp [k]
  | a :: as, vs, k => by
    simp only [VRs] at k; obtain ⟨v, vs', rfl, _, k2⟩ := k; simp [VRs.length k2]
theorem VRs.get {g : Gh} : ∀ {as : List AVal} {vs : List Value}, VRs g as vs → ∀ (i : Nat) (a : AVal), as[i]? = some a → ∃ v, vs[i]? = some v ∧ VR g a v
  | [], _, _, i, a, h => by simp at h
  | a :: as, vs, k, i, x, h => by
    simp only [VRs] at k; obtain ⟨v, vs', rfl, k1, k2⟩ := k
    cases i with
    | zero => simp at h; subst h; exact ⟨v, rfl, k1⟩
    | succ i => simp at h; simpa using VRs.get k2 i x h
theorem VRs.of {g : Gh} : ∀ {as : List AVal} {vs : List Value}, vs.length = as.length → (∀ (i : Nat) (a : AVal) (v : Value), as[i]? = some a → vs[i]? = some v → VR g a v) → VRs g as vs
  | [], vs, hl, _ => by simp only [VRs]; simpa using hl
  | a :: as, vs, hl, h => by
    cases vs with
    | nil => simp at hl
    | cons v vs =>
      simp only [VRs]
      exact ⟨v, vs, rfl, h 0 a v rfl rfl, VRs.of (by simpa using hl) fun i a' v' h1 h2 => h (i + 1) a' v' (by simpa using h1) (by simpa using h2)⟩
theorem VRs.append {g : Gh} {as bs : List AVal} {vs us : List Value} (h : VRs g as vs) (k : VRs g bs us) : VRs g (as ++ bs) (vs ++ us) := by
  have hl := h.length
  refine VRs.of (by simp [h.length, k.length]) fun i a v h1 h2 => ?_
  rcases Nat.lt_or_ge i as.length with hi | hi
  · rw [List.getElem?_append_left hi] at h1
    rw [List.getElem?_append_left (by omega)] at h2
    obtain ⟨v', e, r⟩ := h.get i a h1
    rw [e] at h2; cases h2; exact r
  · rw [List.getElem?_append_right hi] at h1
    rw [List.getElem?_append_right (by omega), hl] at h2
    obtain ⟨v', e, r⟩ := k.get _ a h1
    rw [e] at h2; cases h2; exact r
theorem VRs.drop {g : Gh} {as : List AVal} {vs : List Value} (h : VRs g as vs) (n : Nat) : VRs g (as.drop n) (vs.drop n) := by
  refine VRs.of (by simp [h.length]) fun i a v h1 h2 => ?_
  rw [List.getElem?_drop] at h1 h2
  obtain ⟨v', e, r⟩ := h.get _ a h1
  rw [e] at h2; cases h2; exact r
theorem VRs.take {g : Gh} {as : List AVal} {vs : List Value} (h : VRs g as vs) (n : Nat) : VRs g (as.take n) (vs.take n) := by
  refine VRs.of (by simp [h.length]) fun i a v h1 h2 => ?_
  rw [List.getElem?_take] at h1 h2
  split at h1
  · rename_i hi
    rw [if_pos hi] at h2
    obtain ⟨v', e, r⟩ := h.get _ a h1
    rw [e] at h2; cases h2; exact r
  · cases h1
theorem VRs.map_eval {g : Gh} {α : Type} {f : α → AVal} {k : α → Value} : ∀ (l : List α), (∀ x ∈ l, VR g (f x) (k x)) → VRs g (l.map f) (l.map k)
  | [], _ => by simp [VRs]
  | x :: l, h => by
    simp only [List.map_cons, VRs]
    exact ⟨_, _, rfl, h x (by simp), VRs.map_eval l fun y hy => h y (by simp [hy])⟩
theorem VC.get {g : Gh} {b : Nat} : ∀ {as : List AVal} {o : Nat}, VC g b o as → ∀ (i : Nat) (a : AVal), as[i]? = some a → ∃ x, g.H b (o + i) = some x ∧ VR g a x
  | [], _, _, i, a, h => by simp at h
  | a :: as, o, k, i, x, h => by
    simp only [VC] at k
    cases i with
    | zero => simp at h; subst h; exact k.1
    | succ i =>
      simp at h
      obtain ⟨y, e, r⟩ := VC.get k.2 i x h
      exact ⟨y, by rw [← e]; congr 1; omega, r⟩
theorem VC.of {g : Gh} {b : Nat} : ∀ {as : List AVal} {o : Nat}, (∀ (i : Nat) (a : AVal), as[i]? = some a → ∃ x, g.H b (o + i) = some x ∧ VR g a x) → VC g b o as
  | [], _, _ => by simp [VC]
  | a :: as, o, h => by
    simp only [VC]
    exact ⟨h 0 a rfl, VC.of fun i x hx => by obtain ⟨y, e, r⟩ := h (i + 1) x (by simpa using hx); exact ⟨y, by rw [← e]; congr 1; omega, r⟩⟩
theorem VC.drop {g : Gh} {b o : Nat} {as : List AVal} (h : VC g b o as) (n : Nat) : VC g b (o + n) (as.drop n) :=
  VC.of fun i a hi => by
    rw [List.getElem?_drop] at hi
    obtain ⟨x, e, r⟩ := h.get _ a hi
    exact ⟨x, by rw [← e]; congr 1; omega, r⟩
theorem VC.take {g : Gh} {b o : Nat} {as : List AVal} (h : VC g b o as) (n : Nat) : VC g b o (as.take n) :=
  VC.of fun i a hi => by
    rw [List.getElem?_take] at hi
    split at hi
    · exact h.get _ a hi
    · cases hi
theorem VC.append {g : Gh} {b o : Nat} {as bs : List AVal} (h : VC g b o as) (k : VC g b (o + as.length) bs) : VC g b o (as ++ bs) :=
  VC.of fun i a hi => by
    rcases Nat.lt_or_ge i as.length with hl | hl
    · rw [List.getElem?_append_left hl] at hi
      exact h.get _ a hi
    · rw [List.getElem?_append_right hl] at hi
      obtain ⟨x, e, r⟩ := k.get _ a hi
      exact ⟨x, by rw [← e]; congr 1; omega, r⟩
/-! ### the world -/
def MR (g : Gh) : List (Value × AVal) → List MapEntry → Prop
  | [], ms => ms = []
  | e :: es, ms => ∃ m ms', ms = m :: ms' ∧ m.key = e.1 ∧ VR g e.2 m.val ∧ MR g es ms'
/-- A key of a map: a string, an integer of a kind, or a bool. -/
def keyFit : KeyK → Value → Bool
  | .str, .string _ => true
  | .int k, .int k' _ => decide (k' = k)
  | .bool, .bool _ => true
  | _, _ => false
def keyEq : Value → Value → Bool
  | .string a, .string b => decide (a = b)
  | .int _ a, .int _ b => decide (a = b)
  | .bool a, .bool b => a == b
  | _, _ => false
def mput (k : Value) (v : AVal) : List (Value × AVal) → List (Value × AVal)
  | [] => [(k, v)]
  | e :: es => if keyEq k e.1 then (k, v) :: es else e :: mput k v es
def BR (P : Program) (g : Gh) (w : World) (i b : Nat) : ABlk → Prop
  | .row e cs => ∃ vs sp c, w.heap[b]? = some (.cells ⟨vs ++ sp⟩ e (0, 0)) ∧ VRs g cs vs ∧ g.Cp i = some c ∧ (vs ++ sp).length = c * P.cellsOf e
  | .cells t cs => ∃ vs, w.heap[b]? = some (.cells ⟨vs⟩ t (0, 0)) ∧ VRs g cs vs
  | .map kk es => ∃ ms clk, w.heap[b]? = some (.map ⟨ms⟩ clk) ∧ MR g es ms ∧ (∀ e ∈ es, keyFit kk e.1 = true) ∧ (∀ m ∈ ms, m.born < clk) ∧ ms.Pairwise (fun x y => x.born < y.born)
  | .dead => True
  | .loop L => ∃ fn tmps asgn body ds, w.heap[b]? = some (.loop { state := L.st, pending := L.pend.map AJump.code, fn := fn, tmps := tmps, params := ⟨L.ps⟩, assign := asgn, body := body, defers := ds }) ∧ (tmps.size = L.n ∧ ∀ t, VR g (L.tmps t) (tmps.getD t undef)) ∧ L.is asgn body
  | .dfr => w.heap[b]? = some (.deferred (some []))
  | .mapP kk es k s => ∃ ms clk, w.heap[b]? = some (.map ⟨ms⟩ clk) ∧ MR g es ms ∧ (∀ e ∈ es, keyFit kk e.1 = true) ∧ (∀ m ∈ ms, m.born < clk) ∧ ms.Pairwise (fun x y => x.born < y.born) ∧ keyFit kk k = true ∧
      ∃ born n e j m, g.T s = some (b, born, n, e) ∧ ms[j]? = some m ∧ m.born = born ∧ m.key = k ∧ ∀ v, mput k v es = es.set j (k, v)
def ABlk.isDead : ABlk → Bool
  | .dead => true
  | _ => false
structure Sim (P : Program) (g : Gh) (w : World) (μ : AMem) : Prop where
  lt : ∀ i b, g.φ i = some b → i < μ.blks.length ∧ b < w.heap.size
  inj : ∀ i j b k k', g.φ i = some b → g.φ j = some b → μ.blks[i]? = some k → μ.blks[j]? = some k' → k.isDead = false → k'.isDead = false → i = j
  cpl : ∀ i c, g.Cp i = some c → ∃ b, g.φ i = some b
  blk : ∀ i b k, g.φ i = some b → μ.blks[i]? = some k → BR P g w i b k
  imm : ∀ b o x, g.H b o = some x → ∃ cs e fr, w.heap[b]? = some (.cells cs e fr) ∧ cs[o]? = some x
  sep : ∀ i b k o, g.φ i = some b → μ.blks[i]? = some k → k.isDead = false → g.H b o = none
  tlt : ∀ s b c n e, g.T s = some (b, c, n, e) → b < w.heap.size
  tk : ∀ s b c n e, s ∈ μ.lv → g.T s = some (b, c, n, e) → ∃ cs, w.heap[b]? = some (.cells cs e (0, 0)) ∧ cs.size = c * P.cellsOf e ∧ ∀ o, n ≤ o → g.H b o = none
  tsep : ∀ s b c n e i k, s ∈ μ.lv → g.T s = some (b, c, n, e) → g.φ i = some b → μ.blks[i]? = some k → k.isDead = true
  tinj : ∀ s s' b c n e c' n' e', s ∈ μ.lv → s' ∈ μ.lv → g.T s = some (b, c, n, e) → g.T s' = some (b, c', n', e') → s = s'
  nd : μ.lv.Nodup
  ll : ∀ s, s ∈ μ.lv → s < μ.nx
  tf : ∀ s, μ.nx ≤ s → g.T s = none
  gl : ∀ b cs, μ.gl b = some cs → VC g b 0 cs
/-- Whose content may turn: the blocks of the abstract memory, the rows of live stamps. -/
def Owned (g : Gh) (μ : AMem) (b : Nat) : Prop := (∃ i, g.φ i = some b) ∨ ∃ s ∈ μ.lv, ∃ c n e, g.T s = some (b, c, n, e)
/-- What else was there stays. -/
structure Frame' (g : Gh) (μ : AMem) (w w' : World) : Prop where
  os : w'.os = w.os
  tape : w'.tape = w.tape
  output : w'.output = w.output
  size : w.heap.size ≤ w'.heap.size
  block : ∀ b, b < w.heap.size → ¬ Owned g μ b → w'.heap[b]? = w.heap[b]?
theorem Frame'.refl (g : Gh) (μ : AMem) (w : World) : Frame' g μ w w := ⟨rfl, rfl, rfl, Nat.le_refl _, fun _ _ _ => rfl⟩
/-- From (g, w, μ) to (g', w', μ'): what is known grows; what else was there stays. -/
structure St (g : Gh) (w : World) (μ : AMem) (g' : Gh) (w' : World) (μ' : AMem) : Prop where
  le : g.le g'
  agree : ∀ i, i < μ.blks.length → g'.φ i = g.φ i
  len : μ.blks.length ≤ μ'.blks.length
  hn : ∀ b o, b < w.heap.size → ¬ Owned g μ b → g'.H b o = g.H b o
  frame : Frame' g μ w w'
  own : ∀ b, b < w.heap.size → Owned g' μ' b → Owned g μ b
theorem St.refl (g : Gh) (w : World) (μ : AMem) : St g w μ g w μ := ⟨.refl g, fun _ _ => rfl, Nat.le_refl _, fun _ _ _ _ => rfl, .refl g μ w, fun _ _ h => h⟩
theorem St.trans {g g' g'' : Gh} {w w' w'' : World} {μ μ' μ'' : AMem} (h : St g w μ g' w' μ') (k : St g' w' μ' g'' w'' μ'') : St g w μ g'' w'' μ'' where
  le := h.le.trans k.le
  agree i hi := (k.agree i (Nat.lt_of_lt_of_le hi h.len)).trans (h.agree i hi)
  len := Nat.le_trans h.len k.len
  hn b o hb ho := (k.hn b o (Nat.lt_of_lt_of_le hb h.frame.size) fun ho' => ho (h.own b hb ho')).trans (h.hn b o hb ho)
  frame := ⟨k.frame.os.trans h.frame.os, k.frame.tape.trans h.frame.tape, k.frame.output.trans h.frame.output, Nat.le_trans h.frame.size k.frame.size,
    fun b hb ho => (k.frame.block b (Nat.lt_of_lt_of_le hb h.frame.size) fun ho' => ho (h.own b hb ho')).trans (h.frame.block b hb ho)⟩
  own b hb ho := h.own b hb (k.own b (Nat.lt_of_lt_of_le hb h.frame.size) ho)
mutual
/-- Nothing from block k on, no stamp from s on. -/
def Clean (k s : Nat) : AVal → Prop
  | .any | .lit _ | .glob _ _ => True
  | .agg cs | .tup cs | .ep cs => Cleans k s cs
  | .sl _ cs tk => Cleans k s cs ∧ (match tk with | .own r _ => r < s | _ => True)
  | .ptr id _ | .mp id | .ms id _ _ _ | .yld id => id < k
  | .stp r => r < s
  | .fn _ fs cs => Cleans k s fs ∧ Cleans k s cs
  | .ifc _ v | .opt _ v => Clean k s v
def Cleans (k s : Nat) : List AVal → Prop
  | [] => True
  | c :: cs => Clean k s c ∧ Cleans k s cs
end
def CleanB (k s : Nat) : ABlk → Prop
  | .cells _ cs => Cleans k s cs
  | .row _ cs => Cleans k s cs
  | .map _ es => Cleans k s (es.map (·.2))
  | .dead => True
  | .loop L => ∀ t, Clean k s (L.tmps t)
  | .dfr => True
  | .mapP _ es _ r => Cleans k s (es.map (·.2)) ∧ r < s
def CleanD (k s : Nat) : ADef → Prop
  | .mark id => id < k
  | .fn _ args => Cleans k s args
/-- Memory that names nothing that is not there. -/
structure WFm (μ : AMem) : Prop where
  blk : ∀ b, b ∈ μ.blks → CleanB μ.blks.length μ.nx b
  gl : ∀ b cs, μ.gl b = some cs → Cleans 0 0 cs
  df : ∀ d, d ∈ μ.df → CleanD μ.blks.length μ.nx d
theorem Cleans_iff {k s : Nat} : ∀ {cs : List AVal}, Cleans k s cs ↔ ∀ c, c ∈ cs → Clean k s c
  | [] => by simp [Cleans]
  | c :: cs => by simp [Cleans, Cleans_iff]
mutual
theorem Clean.mono {k s k' s' : Nat} (hk : k ≤ k') (hs : s ≤ s') : ∀ (a : AVal), Clean k s a → Clean k' s' a
  | .any, _ | .lit _, _ | .glob _ _, _ => by simp [Clean]
  | .agg cs, h | .tup cs, h | .ep cs, h => by simp only [Clean] at h ⊢; exact Cleans.mono hk hs cs h
  | .sl n cs tk, h => by
    simp only [Clean] at h ⊢
    refine ⟨Cleans.mono hk hs cs h.1, ?_⟩
    cases tk <;> first | trivial | exact Nat.lt_of_lt_of_le h.2 hs
  | .ptr _ _, h | .mp _, h | .ms _ _ _ _, h | .yld _, h | .stp _, h => by simp only [Clean] at h ⊢; omega
  | .fn _ fs cs, h => by simp only [Clean] at h ⊢; exact ⟨Cleans.mono hk hs fs h.1, Cleans.mono hk hs cs h.2⟩
  | .ifc _ v, h | .opt _ v, h => by simp only [Clean] at h ⊢; exact Clean.mono hk hs v h
theorem Cleans.mono {k s k' s' : Nat} (hk : k ≤ k') (hs : s ≤ s') : ∀ (as : List AVal), Cleans k s as → Cleans k' s' as
  | [], _ => by simp [Cleans]
  | a :: as, h => by simp only [Cleans] at h ⊢; exact ⟨Clean.mono hk hs a h.1, Cleans.mono hk hs as h.2⟩
end
theorem CleanB.mono {k s k' s' : Nat} (hk : k ≤ k') (hs : s ≤ s') : ∀ {b : ABlk}, CleanB k s b → CleanB k' s' b
  | .cells _ cs, h => Cleans.mono hk hs _ h
  | .row _ cs, h => Cleans.mono hk hs _ h
  | .map _ es, h => Cleans.mono hk hs _ h
  | .dead, _ => trivial
  | .loop L, h => fun t => Clean.mono hk hs _ (h t)
  | .dfr, _ => trivial
  | .mapP _ es _ r, h => ⟨Cleans.mono hk hs _ h.1, Nat.lt_of_lt_of_le h.2 hs⟩
theorem CleanD.mono {k s k' s' : Nat} (hk : k ≤ k') (hs : s ≤ s') : ∀ {d : ADef}, CleanD k s d → CleanD k' s' d
  | .mark _, h => Nat.lt_of_lt_of_le h hk
  | .fn _ _, h => Cleans.mono hk hs _ h
/-- A frame's deferred calls are told. -/
def DfR (P : Program) (g : Gh) : List ADef → List Deferred → Prop
  | [], ds => ds = []
  | .mark id :: l, ds => ∃ b args ds', ds = { target := .collected b, args := args } :: ds' ∧ g.φ id = some b ∧ DfR P g l ds'
  | .fn f as :: l, ds => ∃ fv cap vs cs ds', ds = { target := .fn fv cap, args := vs } :: ds' ∧ (∀ w, (invoke (.fn fv cap) vs).run P w = (callFunc f ⟨cs⟩).run P w) ∧ VRs g as cs ∧ DfR P g l ds'
theorem DfR.mono {P : Program} {g g' : Gh} (h : g.le g') : ∀ (l : List ADef) (ds : List Deferred), DfR P g l ds → DfR P g' l ds
  | [], _, k => k
  | .mark _ :: l, _, ⟨b, args, ds', e, k1, k2⟩ => ⟨b, args, ds', e, h.φ _ _ k1, DfR.mono h l ds' k2⟩
  | .fn _ as :: l, _, ⟨fv, cap, vs, cs, ds', e, k1, k2, k3⟩ => ⟨fv, cap, vs, cs, ds', e, k1, VRs.mono h as cs k2, DfR.mono h l ds' k3⟩
/-- What a call may come to. -/
inductive AOut where
  | ret (v : AVal)
  | panic (v : AVal)
def AOut.val : AOut → AVal
  | .ret v | .panic v => v
def OutR (g : Gh) : AOut → Ending → Prop
  | .ret v, .returned cv => VR g v cv
  | .panic v, .panicked ch => ∃ cv, ch = [{ v := cv, recovered := false }] ∧ VR g v cv
  | _, _ => False
/-- ABSTRACT CONTRACTS. -/
structure ACalls (P : Program) (f : FuncId) (args : List AVal) (μ : AMem) (Q : AOut → AMem → Prop) : Prop where
  out : ∀ (g : Gh) (w : World) (cargs : List Value), Sim P g w μ → WFm μ → Cleans μ.blks.length μ.nx args → VRs g args cargs →
    Calls P f ⟨cargs⟩ w fun e w' => ∃ o μ' g', Q o μ' ∧ St g w μ g' w' μ' ∧ Sim P g' w' μ' ∧ OutR g' o e ∧ WFm μ' ∧ Clean μ'.blks.length μ'.nx o.val ∧ μ.nx ≤ μ'.nx ∧ μ'.df = μ.df
/-- What a call of a loop's yield asks: A ROUND of its body. -/
structure ARounds (P : Program) (id : Nat) (args : List AVal) (μ : AMem) (Q : AOut → AMem → Prop) : Prop where
  out : ∀ (g : Gh) (w : World) (cargs : List Value) (b : Nat), Sim P g w μ → WFm μ → Cleans μ.blks.length μ.nx args → VRs g args cargs → g.φ id = some b →
    ∃ f tmps asgn body, (Instr.yield b ⟨cargs⟩).run P w = .ok (.round b f tmps asgn body) w ∧ ∀ n, RoundIn Fence.wide n P b f tmps asgn body w fun e w' =>
      ∃ o μ' g', Q o μ' ∧ St g w μ g' w' μ' ∧ Sim P g' w' μ' ∧ OutR g' o e ∧ WFm μ' ∧ Clean μ'.blks.length μ'.nx o.val ∧ μ.nx ≤ μ'.nx ∧ μ'.df = μ.df
theorem ACalls.mono {P : Program} {f : FuncId} {args : List AVal} {μ : AMem} {Q Q' : AOut → AMem → Prop} (h : ACalls P f args μ Q) (k : ∀ o μ', Q o μ' → Q' o μ') : ACalls P f args μ Q' :=
  ⟨fun g w cargs hs hw hc ha => (h.out g w cargs hs hw hc ha).mono fun e w' ⟨o, μ', g', hq, r⟩ => ⟨o, μ', g', k o μ' hq, r⟩⟩
end Go.Proofs.YtjleeecaebgblaaGreatDoor.AL
namespace Go.Proofs.YtjleeecaebgblaaGreatDoor.AL
open Go.RowKit
abbrev ATmps := Nat → AVal
def put (A : ATmps) : Option Tmp → AVal → ATmps
  | none, _ => A
  | some d, v => fun t => if t = d then v else A t
theorem put_same (A : ATmps) (d : Nat) (v : AVal) : put A (some d) v d = v := by simp [put]
theorem put_ne (A : ATmps) (d t : Nat) (v : AVal) (h : t ≠ d) : put A (some d) v t = A t := by simp [put, h]
theorem put_none (A : ATmps) (v : AVal) : put A none v = A := rfl
def ofCell : Value → AVal
  | .slice none 0 0 => .sl 0 [] .full
  | v => .lit v
def ofConst : Value → AVal
  | .agg cs => .agg (cs.toList.map ofCell)
  | v => ofCell v
def aeval (A : ATmps) : Operand → AVal
  | .tmp t => A t
  | .const v => ofConst v
  | .global b => .glob b 0
  | .func f => .fn (.func f) [] []
theorem VR_ofCell (g : Gh) (v : Value) : VR g (ofCell v) v := by
  unfold ofCell
  split
  · unfold VR
    exact ⟨none, 0, rfl, Nat.le_refl _, rfl, .inl ⟨rfl, rfl⟩⟩
  · simp [VR]
theorem VR_ofConst (g : Gh) (v : Value) : VR g (ofConst v) v := by
  unfold ofConst
  split
  · rename_i cs
    simp only [VR]
    refine ⟨cs.toList, by simp, ?_⟩
    have := VRs.map_eval (g := g) (f := ofCell) (k := id) cs.toList fun x _ => VR_ofCell g x
    simpa using this
  · exact VR_ofCell g v
structure TR (N : Nat) (g : Gh) (A : ATmps) (a : Act) : Prop where
  size : a.tmps.size = N
  val : ∀ t, VR g (A t) (a.tmps.getD t undef)
theorem TR.mono {N : Nat} {g g' : Gh} {A : ATmps} {a : Act} (h : TR N g A a) (k : g.le g') : TR N g' A a := ⟨h.size, fun t => VR.mono k _ _ (h.val t)⟩
theorem TR.eval {N : Nat} {g : Gh} {A : ATmps} {a : Act} (h : TR N g A a) (x : Operand) : VR g (aeval A x) (a.eval x) := by
  cases x with
  | tmp t => exact h.val t
  | const v => exact VR_ofConst g v
  | «global» b => simp [aeval, VR, Act.eval]
  | func f => simp only [aeval, VR, Act.eval]; exact ⟨[], [], rfl, by simp [VRs], by simp [VRs]⟩
def dstOk (N : Nat) : Option Tmp → Bool
  | none => true
  | some d => decide (d < N)
theorem TR.put {N : Nat} {g : Gh} {A : ATmps} {a : Act} (h : TR N g A a) {d : Option Tmp} {v : AVal} {cv : Value} (hd : dstOk N d = true) (hv : VR g v cv) : TR N g (put A d v) (a.put d cv) := by
  cases d with
  | none => exact h
  | some d =>
    have hd' : d < N := by simpa [dstOk] using hd
    refine ⟨by simpa [Act.put] using h.size, fun t => ?_⟩
    by_cases e : t = d
    · subst e
      rw [put_same]
      have : (a.put (some t) cv).tmps.getD t undef = cv := by
        simp [Act.put, Array.getD, h.size, hd']
      rw [this]; exact hv
    · rw [put_ne _ _ _ _ e]
      have : (a.put (some d) cv).tmps.getD t undef = a.tmps.getD t undef := by
        simp only [Act.put, Array.getD_eq_getD_getElem?, Array.getElem?_setIfInBounds]
        rw [if_neg (fun h => e h.symm)]
      rw [this]; exact h.val t
/-- The cells of a value. -/
def AVal.one : AVal → Bool
  | .lit v => v.oneCell'
  | .agg _ | .tup _ | .any | .opt _ _ => false
  | _ => true
def vcells : AVal → Option (List AVal)
  | .agg cs => some cs
  | .any | .tup _ | .opt _ _ => none
  | .lit v => if v.oneCell' then some [.lit v] else none
  | a => some [a]
theorem AVal.one_of {g : Gh} {a : AVal} {cv : Value} (h : a.one = true) (k : VR g a cv) : cv.oneCell' = true := by
  cases a <;> simp only [AVal.one, VR] at h k <;> first
    | (subst k; exact h)
    | (subst k; rfl)
    | (cases h; done)
    | (obtain ⟨_, _, rfl, _⟩ := k; rfl)
    | (obtain ⟨_, _, rfl⟩ := k; rfl)
    | (obtain ⟨_, _, _, rfl, _⟩ := k; rfl)
    | (obtain ⟨_, rfl, _⟩ := k; rfl)
    | (obtain ⟨_, _, _, _, _, rfl⟩ := k; rfl)
theorem cells_of_one {v : Value} (h : v.oneCell' = true) : v.cells = #[v] := by cases v <;> first | rfl | cases h
theorem vcells_spec {g : Gh} {a : AVal} {cs : List AVal} {cv : Value} (h : vcells a = some cs) (k : VR g a cv) : VRs g cs cv.cells.toList := by
  have one : ∀ b : AVal, VR g b cv → b.one = true → VRs g [b] cv.cells.toList := fun b hb ho => by
    rw [cells_of_one (AVal.one_of ho hb)]; simp only [VRs]; exact ⟨cv, [], rfl, hb, rfl⟩
  cases a <;> simp only [vcells] at h
  case agg cs' => cases h; simp only [VR] at k; obtain ⟨vs, rfl, k⟩ := k; exact k
  case lit v => split at h <;> cases h; exact one _ k (by simpa [AVal.one] using ‹_›)
  case any => cases h
  case tup => cases h
  case opt => cases h
  all_goals (cases h; exact one _ k rfl)
theorem all_one {g : Gh} {cs : List AVal} {vs : List Value} (h : cs.all AVal.one = true) (k : VRs g cs vs) : ∀ v ∈ vs, v.oneCell' = true := by
  intro v hv
  obtain ⟨i, hi, rfl⟩ := List.getElem_of_mem hv
  have hl := k.length
  obtain ⟨v', e, r⟩ := k.get i (cs[i]'(by omega)) (List.getElem?_eq_getElem _)
  rw [List.getElem?_eq_getElem hi] at e; cases e
  exact AVal.one_of (List.all_eq_true.1 h _ (List.getElem_mem _)) r
/-! ### types -/
def tyAgg (P : Program) (t : TypeId) : Option Bool := (P.underlying t).map fun d => d.isRow
theorem info_of_underlying {P : Program} {t : TypeId} {d : TypeDesc} (h : P.underlying t = some d) : ∃ i, P.info? t = some i := by
  unfold Program.underlying at h
  cases hi : P.info? t with
  | none => simp [hi] at h
  | some i => exact ⟨i, rfl⟩
theorem run_sizeOf' {P : Program} {t : TypeId} {i : TypeInfo} (h : P.info? t = some i) (w : World) : (sizeOf t).run P w = .ok (P.cellsOf t) w := by
  simp [sizeOf, typeInfo, h, Program.cellsOf]
theorem run_isAgg {P : Program} {t : TypeId} {b : Bool} (h : tyAgg P t = some b) (w : World) : (isAgg t).run P w = .ok b w := by
  unfold tyAgg at h
  cases hu : P.underlying t with
  | none => simp [hu] at h
  | some d =>
    have hb : d.isRow = b := by simpa [hu] using h
    unfold isAgg
    rw [Sem.run_bind, run_underlying hu w]
    subst hb
    cases d <;> rfl
theorem info_of_tyAgg {P : Program} {t : TypeId} {b : Bool} (h : tyAgg P t = some b) : ∃ i, P.info? t = some i := by
  unfold tyAgg at h
  cases hu : P.underlying t with
  | none => simp [hu] at h
  | some d => exact info_of_underlying hu
/-! ### parts, loads -/
def aPart (P : Program) (t : TypeId) (cs : List AVal) (off : Nat) : Option AVal :=
  match tyAgg P t with
  | some true => some (.agg ((cs.drop off).take (P.cellsOf t)))
  | some false => cs[off]?
  | none => none
theorem run_part {P : Program} {g : Gh} {t : TypeId} {cs : List AVal} {vs : List Value} {off : Nat} {v : AVal} (h : aPart P t cs off = some v) (k : VRs g cs vs) (w : World) :
    ∃ cv, (part t ⟨vs⟩ off).run P w = .ok cv w ∧ VR g v cv := by
  unfold aPart at h
  cases ht : tyAgg P t with
  | none => simp [ht] at h
  | some b =>
    obtain ⟨i, hi⟩ := info_of_tyAgg ht
    cases b with
    | true =>
      simp only [ht] at h; cases h
      refine ⟨.agg ⟨(vs.drop off).take (P.cellsOf t)⟩, ?_, ?_⟩
      · simp [part, run_isAgg ht, run_sizeOf' hi]
      · simp only [VR]; exact ⟨_, rfl, (k.drop off).take _⟩
    | false =>
      simp only [ht] at h
      obtain ⟨cv, e, r⟩ := k.get off v h
      refine ⟨cv, ?_, r⟩
      simp [part, run_isAgg ht, e]
/-- What a pointer leads to: from the place on. -/
def deref (μ : AMem) : AVal → Option (List AVal)
  | .ptr id off => match μ.blks[id]? with
    | some (.cells _ cs) => if off < cs.length then some (cs.drop off) else none
    | some (.row _ cs) => if off < cs.length then some (cs.drop off) else none
    | _ => none
  | .ep cs => some cs
  | .glob b off => match μ.gl b with
    | some cs => if off < cs.length then some (cs.drop off) else none
    | none => none
  | _ => none
def aload (P : Program) (t : TypeId) (μ : AMem) (x : AVal) : Option AVal :=
  match deref μ x, tyAgg P t with
  | some cs, some true => if P.cellsOf t ≤ cs.length then some (.agg (cs.take (P.cellsOf t))) else none
  | some cs, some false => cs[0]?
  | _, _ => none
/-- Where a pointer leads, the cells lie. -/
theorem deref_spec {P : Program} {g : Gh} {w : World} {μ : AMem} (hs : Sim P g w μ) {x : AVal} {cs : List AVal} {cv : Value} (h : deref μ x = some cs) (k : VR g x cv) :
    ∃ b o, cv = .pointer (some ⟨b, o, none⟩) ∧ ∀ (i : Nat) (a : AVal), cs[i]? = some a → ∃ v, w.cell? ⟨b, o + i, none⟩ = some v ∧ VR g a v := by
  cases x <;> simp only [deref] at h <;> try (cases h; done)
  case ptr id off =>
    simp only [VR] at k
    obtain ⟨b, e, rfl⟩ := k
    refine ⟨b, off, rfl, ?_⟩
    cases hb : μ.blks[id]? with
    | none => simp [hb] at h
    | some blk =>
      cases blk <;> simp only [hb] at h <;> try (cases h; done)
      · rename_i t cs'
        split at h <;> cases h
        have := hs.blk id b _ e hb
        simp only [BR] at this
        obtain ⟨vs, hh, r⟩ := this
        intro i a hi
        rw [List.getElem?_drop] at hi
        obtain ⟨v, e', r'⟩ := r.get _ a hi
        exact ⟨v, by simp [World.cell?, hh, e'], r'⟩
      · rename_i t cs'
        split at h <;> cases h
        have := hs.blk id b _ e hb
        simp only [BR] at this
        obtain ⟨vs, sp, c, hh, r, _⟩ := this
        intro i a hi
        rw [List.getElem?_drop] at hi
        obtain ⟨v, e', r'⟩ := r.get _ a hi
        have hlt := (List.getElem?_eq_some_iff.1 e').1
        exact ⟨v, by simp only [World.cell?, hh, List.getElem?_toArray]; rw [List.getElem?_append_left hlt]; exact e', r'⟩
  case ep cs' =>
    cases h
    simp only [VR] at k
    obtain ⟨b, o, rfl, k⟩ := k
    refine ⟨b, o, rfl, fun i a hi => ?_⟩
    obtain ⟨v, e', r'⟩ := k.get i a hi
    obtain ⟨cs', e, fr, hh, hc⟩ := hs.imm _ _ _ e'
    exact ⟨v, by simp [World.cell?, hh, hc], r'⟩
  case glob b off =>
    simp only [VR] at k
    refine ⟨b, off, k, ?_⟩
    cases hb : μ.gl b with
    | none => simp [hb] at h
    | some cs' =>
      simp only [hb] at h
      split at h <;> cases h
      intro i a hi
      rw [List.getElem?_drop] at hi
      obtain ⟨v, e', r'⟩ := (hs.gl b cs' hb).get _ a hi
      obtain ⟨cs2, e, fr, hh, hc⟩ := hs.imm _ _ _ e'
      rw [Nat.zero_add] at hc
      exact ⟨v, by simp [World.cell?, hh, hc], r'⟩
theorem run_loadAt {P : Program} {g : Gh} {w : World} {μ : AMem} (hs : Sim P g w μ) {t : TypeId} {x v : AVal} {cv : Value} (h : aload P t μ x = some v) (k : VR g x cv) :
    ∃ c, (Instr.loadAt t cv).run P w = .ok c w ∧ VR g v c := by
  unfold aload at h
  cases hd : deref μ x with
  | none => simp [hd] at h
  | some cs =>
    obtain ⟨b, o, rfl, hc⟩ := deref_spec hs hd k
    cases ht : tyAgg P t with
    | none => simp [hd, ht] at h
    | some bb =>
      obtain ⟨i, hi⟩ := info_of_tyAgg ht
      cases bb with
      | true =>
        simp only [hd, ht] at h
        split at h <;> cases h
        rename_i hle
        have hex : ∀ (l : List AVal) (o : Nat), (∀ (i : Nat) (a : AVal), l[i]? = some a → ∃ v, w.cell? ⟨b, o + i, none⟩ = some v ∧ VR g a v) → ∃ vs, VRs g l vs ∧ ∀ j v, vs[j]? = some v → w.cell? ⟨b, o + j, none⟩ = some v := by
          intro l
          induction l with
          | nil => intro o _; exact ⟨[], by simp [VRs], by simp⟩
          | cons a l ih =>
            intro o hl
            obtain ⟨v, e, r⟩ := hl 0 a rfl
            obtain ⟨vs, r', hv⟩ := ih (o + 1) fun i x hx => by
              have := hl (i + 1) x (by simpa using hx)
              rwa [show o + (i + 1) = o + 1 + i by omega] at this
            refine ⟨v :: vs, by simp only [VRs]; exact ⟨v, vs, rfl, r, r'⟩, fun j u hj => ?_⟩
            cases j with
            | zero => simp at hj; subst hj; exact e
            | succ j => simp at hj; rw [show o + (j + 1) = o + 1 + j by omega]; exact hv j u hj
        obtain ⟨vs, r, hv⟩ := hex (cs.take (P.cellsOf t)) o fun i a hi => by
          rw [List.getElem?_take] at hi
          split at hi
          · exact hc i a hi
          · cases hi
        have hl : vs.length = P.cellsOf t := by rw [r.length, List.length_take]; omega
        refine ⟨.agg ⟨vs⟩, ?_, by simp only [VR]; exact ⟨vs, rfl, r⟩⟩
        have hlc : (loadCells ⟨b, o, none⟩ (P.cellsOf t)).run P w = .ok ⟨vs⟩ w := by
          have := run_loadCells_list (P := P) w ⟨b, o, none⟩ vs fun j u hj => by rw [Addr.add_mid]; exact hv j u hj
          rwa [hl] at this
        simp [Instr.loadAt, Instr.sureAddr, loadVar, run_isAgg ht, run_sizeOf' hi, hlc]
      | false =>
        simp only [hd, ht] at h
        obtain ⟨c, e, r⟩ := hc 0 v h
        refine ⟨c, ?_, r⟩
        simp only [Nat.add_zero] at e
        simp [Instr.loadAt, Instr.sureAddr, loadVar, run_isAgg ht, load, Sem.run, e]
/-! ### places -/
def fieldOff (P : Program) (s : TypeId) (f : Nat) : Option Nat :=
  match P.underlying s with
  | some (.struct fs) => match fs[f]? with
    | some fd => if (P.info? fd.type).isSome && P.cellsOf fd.type != 0 then some fd.offset else none
    | none => none
  | _ => none
def fieldPart (P : Program) (s : TypeId) (f : Nat) : Option (Nat × TypeId) :=
  match P.underlying s with
  | some (.struct fs) => match fs[f]? with
    | some fd => some (fd.offset, fd.type)
    | none => none
  | _ => none
inductive Row where
  | sl (e : TypeId) (sz : Nat)
  | arr (n : Nat) (e : TypeId) (sz : Nat)
  | str
def rowOf (P : Program) (t : TypeId) : Option Row :=
  match P.underlying t with
  | some (.slice e) => if (P.info? e).isSome then some (.sl e (P.cellsOf e)) else none
  | some (.array n e) => if (P.info? e).isSome then some (.arr n e (P.cellsOf e)) else none
  | some .string => some .str
  | _ => none
def shiftP (n : Nat) : AVal → Option AVal
  | .ptr id off => some (.ptr id (off + n))
  | .ep cs => some (.ep (cs.drop n))
  | .glob b off => some (.glob b (off + n))
  | _ => none
theorem shiftP_spec {g : Gh} {n : Nat} {x v : AVal} {cv : Value} (h : shiftP n x = some v) (k : VR g x cv) :
    ∃ b o, cv = .pointer (some ⟨b, o, none⟩) ∧ VR g v (.pointer (some ⟨b, o + n, none⟩)) := by
  cases x <;> simp only [shiftP] at h <;> cases h
  · simp only [VR] at k ⊢
    obtain ⟨b, e, rfl⟩ := k
    exact ⟨b, _, rfl, b, e, rfl⟩
  · simp only [VR] at k ⊢
    obtain ⟨b, o, rfl, k⟩ := k
    exact ⟨b, o, rfl, b, o + n, rfl, k.drop n⟩
  · simp only [VR] at k ⊢
    exact ⟨_, _, k, rfl⟩
def aField (P : Program) (s : TypeId) (x : AVal) (f : Nat) : Option AVal :=
  match fieldPart P s f, x with
  | some (off, t), .agg cs => aPart P t cs off
  | _, _ => none
def aFieldAddr (P : Program) (s : TypeId) (x : AVal) (f : Nat) : Option AVal :=
  match fieldOff P s f with
  | some off => shiftP off x
  | none => none
theorem run_field {P : Program} {g : Gh} {s : TypeId} {x v : AVal} {f : Nat} {cv : Value} (h : aField P s x f = some v) (k : VR g x cv) (w : World) :
    ∃ c, (Instr.field s cv f).run P w = .ok c w ∧ VR g v c := by
  unfold aField at h
  split at h
  · rename_i off t cs hf
    unfold fieldPart at hf
    split at hf <;> try (cases hf; done)
    rename_i fs hu
    split at hf <;> cases hf
    rename_i fd hfd
    simp only [VR] at k
    obtain ⟨vs, rfl, k⟩ := k
    obtain ⟨c, hr, r⟩ := run_part h k w
    exact ⟨c, by simp [Instr.field, run_underlying hu, hfd, asAgg, hr], r⟩
  · cases h
theorem run_fieldAt {P : Program} {g : Gh} {s : TypeId} {x v : AVal} {f : Nat} {cv : Value} (h : aFieldAddr P s x f = some v) (k : VR g x cv) (w : World) :
    ∃ c, (Instr.fieldAt s cv f).run P w = .ok c w ∧ VR g v c := by
  unfold aFieldAddr at h
  split at h
  · rename_i off hf
    obtain ⟨b, o, rfl, r⟩ := shiftP_spec h k
    unfold fieldOff at hf
    split at hf <;> try (cases hf; done)
    rename_i fs hu
    split at hf <;> try (cases hf; done)
    rename_i fd hfd
    split at hf <;> cases hf
    rename_i hc
    simp only [Bool.and_eq_true, bne_iff_ne, ne_eq] at hc
    obtain ⟨i, hi⟩ := Option.isSome_iff_exists.1 hc.1
    refine ⟨_, ?_, r⟩
    simp [Instr.fieldAt, run_underlying hu, hfd, Instr.sureAddr, fieldPlace, run_sizeOf' hi, hc.2, Addr.add_mid]
  · cases h
def aIndexAddr (P : Program) (t : TypeId) (x i : AVal) : Option AVal :=
  match rowOf P t, x, i with
  | some (.sl _ sz), .sl n cs _, .lit (.int _ i) => if 0 ≤ i ∧ i < n then some (.ep (cs.drop (i.toNat * sz))) else none
  | some (.sl _ sz), .ms id off n _, .lit (.int _ i) => if 0 ≤ i ∧ i < n then some (.ptr id (off + i.toNat * sz)) else none
  | some (.arr n _ sz), x, .lit (.int _ i) => if 0 ≤ i ∧ i < n then shiftP (i.toNat * sz) x else none
  | _, _, _ => none
theorem rowOf_sl {P : Program} {t e : TypeId} {sz : Nat} (h : rowOf P t = some (.sl e sz)) : P.underlying t = some (.slice e) ∧ sz = P.cellsOf e ∧ ∃ i, P.info? e = some i := by
  unfold rowOf at h
  split at h <;> try (cases h; done)
  · split at h <;> cases h
    rename_i hi
    exact ⟨‹_›, rfl, Option.isSome_iff_exists.1 hi⟩
  · split at h <;> cases h
theorem rowOf_arr {P : Program} {t e : TypeId} {n sz : Nat} (h : rowOf P t = some (.arr n e sz)) : P.underlying t = some (.array n e) ∧ sz = P.cellsOf e ∧ ∃ i, P.info? e = some i := by
  unfold rowOf at h
  split at h <;> try (cases h; done)
  · split at h <;> cases h
  · rename_i hu
    split at h <;> cases h
    rename_i hi
    exact ⟨hu, rfl, Option.isSome_iff_exists.1 hi⟩
theorem rowOf_str {P : Program} {t : TypeId} (h : rowOf P t = some .str) : P.underlying t = some .string := by
  unfold rowOf at h
  split at h <;> try (cases h; done)
  · split at h <;> cases h
  · split at h <;> cases h
  · assumption
theorem run_indexAt {P : Program} {g : Gh} {t : TypeId} {x i v : AVal} {cv ci : Value} (h : aIndexAddr P t x i = some v) (k : VR g x cv) (ki : VR g i ci) (w : World) :
    ∃ c, (Instr.indexAt t cv ci).run P w = .ok c w ∧ VR g v c := by
  unfold aIndexAddr at h
  split at h
  · rename_i e sz n cs tk kk ii hr
    obtain ⟨hu, hsz, inf, hi⟩ := rowOf_sl hr
    split at h <;> cases h
    rename_i hb
    simp only [VR] at k ki
    subst ki
    obtain ⟨A, c, rfl, hn, htk, k⟩ := k
    rcases k with ⟨rfl, rfl⟩ | ⟨b, o, rfl, k⟩
    · omega
    · refine ⟨.pointer (some ⟨b, o + ii.toNat * sz, none⟩), ?_, by simp only [VR]; exact ⟨b, _, rfl, k.drop _⟩⟩
      subst hsz
      simp [Instr.indexAt, asIntOf, run_underlying hu, hb, run_sizeOf' hi, Addr.add_mid]
  · rename_i e sz id off n tk kk ii hr
    obtain ⟨hu, hsz, inf, hi⟩ := rowOf_sl hr
    split at h <;> cases h
    rename_i hb
    simp only [VR] at k ki ⊢
    subst ki
    obtain ⟨b, c, e, rfl, hn, _⟩ := k
    refine ⟨.pointer (some ⟨b, off + ii.toNat * sz, none⟩), ?_, b, e, rfl⟩
    subst hsz
    simp [Instr.indexAt, asIntOf, run_underlying hu, hb, run_sizeOf' hi, Addr.add_mid]
  · rename_i n e sz x kk ii hr
    obtain ⟨hu, hsz, inf, hi⟩ := rowOf_arr hr
    split at h <;> try (cases h; done)
    rename_i hb
    obtain ⟨b, o, rfl, r⟩ := shiftP_spec h k
    simp only [VR] at ki
    subst ki
    refine ⟨_, ?_, r⟩
    subst hsz
    simp [Instr.indexAt, asIntOf, run_underlying hu, hb, run_sizeOf' hi, Addr.add_mid, Instr.sureAddr]
  · cases h
/-- A byte of a string. -/
def bAt (s : ByteArray) (i : Nat) : UInt8 := s.data.toList.getD i 0
theorem bAt_get {s : ByteArray} {i : Nat} (h : i < s.size) : s[i]? = some (bAt s i) := by
  have h' : i < s.data.toList.length := by simpa using h
  have e : s[i]? = some s[i] := getElem?_pos s i h
  rw [e]
  congr 1
  simp only [bAt, List.getD_eq_getElem?_getD, List.getElem?_eq_getElem h', Option.getD_some]
  rfl
def aIndex (P : Program) (t : TypeId) (x i : AVal) : Option AVal :=
  match rowOf P t, x, i with
  | some .str, .lit (.string s), .lit (.int _ i) => if 0 ≤ i ∧ i < s.size then some (.lit (.int .u8 (bAt s i.toNat).toNat)) else none
  | some (.arr n e sz), .agg cs, .lit (.int _ i) => if 0 ≤ i ∧ i < n then aPart P e cs (i.toNat * sz) else none
  | _, _, _ => none
theorem run_index {P : Program} {g : Gh} {t : TypeId} {x i v : AVal} {cv ci : Value} (h : aIndex P t x i = some v) (k : VR g x cv) (ki : VR g i ci) (w : World) :
    ∃ c, (Instr.index t cv ci).run P w = .ok c w ∧ VR g v c := by
  unfold aIndex at h
  split at h
  · rename_i s kk ii hr
    have hu := rowOf_str hr
    split at h <;> cases h
    rename_i hb
    simp only [VR] at k ki ⊢
    subst k; subst ki
    refine ⟨_, ?_, rfl⟩
    have := bAt_get (s := s) (i := ii.toNat) (by omega)
    simp [Instr.index, asIntOf, run_underlying hu, hb.1, this]
  · rename_i n e sz cs kk ii hr
    obtain ⟨hu, hsz, inf, hi⟩ := rowOf_arr hr
    split at h <;> try (cases h; done)
    rename_i hb
    simp only [VR] at k ki
    subst ki
    obtain ⟨vs, rfl, k⟩ := k
    obtain ⟨c, hc, r⟩ := run_part h k w
    refine ⟨c, ?_, r⟩
    subst hsz
    simp [Instr.index, asIntOf, run_underlying hu, hb, run_sizeOf' hi, hc]
  · cases h
end Go.Proofs.YtjleeecaebgblaaGreatDoor.AL
namespace Go.Proofs.YtjleeecaebgblaaGreatDoor.AL
open Go.RowKit
/-! ### binary operations -/
def intBin (op : BinOp) (k : IntKind) (a b : Int) : Option Value :=
  match op with
  | .add => some (.int k (k.wrap (a + b)))
  | .sub => some (.int k (k.wrap (a - b)))
  | .mul => some (.int k (k.wrap (a * b)))
  | .quo => if b = 0 then none else some (.int k (k.wrap (a.tdiv b)))
  | .rem => if b = 0 then none else some (.int k (a.tmod b))
  | .and => some (.int k (k.wrap (BitVec.ofInt k.bits a &&& BitVec.ofInt k.bits b).toNat))
  | .or => some (.int k (k.wrap (BitVec.ofInt k.bits a ||| BitVec.ofInt k.bits b).toNat))
  | .xor => some (.int k (k.wrap (BitVec.ofInt k.bits a ^^^ BitVec.ofInt k.bits b).toNat))
  | .andNot => some (.int k (k.wrap (BitVec.ofInt k.bits a &&& ~~~ BitVec.ofInt k.bits b).toNat))
  | .eql => some (.bool (decide (a = b)))
  | .neq => some (.bool (!decide (a = b)))
  | .lss => some (.bool (decide (a < b)))
  | .leq => some (.bool (decide (a ≤ b)))
  | .gtr => some (.bool (decide (b < a)))
  | .geq => some (.bool (decide (b ≤ a)))
  | _ => none
def intShift (op : BinOp) (k : IntKind) (a b : Int) : Option Value :=
  if b < 0 then none else
  match op with
  | .shl => some (.int k (k.wrap (a * 2 ^ (min b.toNat k.bits))))
  | .shr => some (.int k (a.fdiv (2 ^ (min b.toNat k.bits))))
  | _ => none
def strBin (op : BinOp) (a b : ByteArray) : Option Value :=
  match op with
  | .add => if a.size + b.size ≤ 9223372036854775807 then some (.string (a ++ b)) else none
  | .eql => some (.bool (decide (a = b)))
  | .neq => some (.bool (!decide (a = b)))
  | .lss => some (.bool (Op.bytesLess a.data.toList b.data.toList))
  | .geq => some (.bool (!Op.bytesLess a.data.toList b.data.toList))
  | _ => none
theorem bytes_beq (a b : ByteArray) : (a.toList == b.toList) = decide (a = b) := by
  rw [ByteArray.toList_eq, ByteArray.toList_eq, Bool.eq_iff_iff]
  simp only [beq_iff_eq, decide_eq_true_eq]
  constructor
  · intro h; cases a; cases b; simp_all
  · intro h; rw [h]
theorem int_beq (a b : Int) : (a == b) = decide (a = b) := by
  rw [Bool.eq_iff_iff]; simp
theorem run_intBin {P : Program} {op : BinOp} {k : IntKind} {a b : Int} {v : Value} {t : TypeId} (h : intBin op k a b = some v) (w : World) : (binOp op t (.int k a) (.int k b)).run P w = .ok v w := by
  unfold intBin at h
  cases op <;> simp only at h <;> first
    | (cases h; simp [binOp, Op.intArith, Op.intCmp, Op.intBits, int_beq, bne]; done)
    | (split at h <;> cases h; rename_i hb; simp [binOp, Op.intDiv, hb]; done)
    | (cases h; done)
theorem run_intShift {P : Program} {op : BinOp} {k k' : IntKind} {a b : Int} {v : Value} {t : TypeId} (h : intShift op k a b = some v) (w : World) : (binOp op t (.int k a) (.int k' b)).run P w = .ok v w := by
  unfold intShift at h
  split at h
  · cases h
  rename_i hb
  cases op <;> simp only at h <;> first
    | (cases h; simp [binOp, Op.shift, hb]; done)
    | (cases h; done)
theorem run_strBin {P : Program} {op : BinOp} {a b : ByteArray} {v : Value} {t : TypeId} (h : strBin op a b = some v) (w : World) : (binOp op t (.string a) (.string b)).run P w = .ok v w := by
  unfold strBin at h
  cases op <;> simp only at h
  case add =>
    split at h
    · rename_i hb
      cases h
      have : ¬ ((a.size + b.size : Nat) : Int) > IntKind.i64.max := by
        have e : IntKind.i64.max = 9223372036854775807 := by decide
        rw [e]; omega
      simp only [binOp, Op.stringOp, this, if_false, Sem.run_pure]
    · cases h
  all_goals first
    | (cases h; done)
    | (cases h; simp [binOp, Op.stringOp, bytes_beq]; done)
    | (cases h; simp [binOp, Op.stringOp, ByteArray.toList_eq]; done)
/-- May values of a type be compared cell by cell? Where its cells lie, and that each is a number, a bool or a string. -/
inductive Sc where | bool | int | str
def scalar (P : Program) (t : TypeId) : Option Sc :=
  match P.underlying t with
  | some .bool => some .bool
  | some (.int _) => some .int
  | some .string => some .str
  | _ => none
theorem scalar_bool {P : Program} {t : TypeId} (h : scalar P t = some .bool) : P.underlying t = some .bool := by
  unfold scalar at h; split at h <;> first | cases h; done | assumption
theorem scalar_int {P : Program} {t : TypeId} (h : scalar P t = some .int) : ∃ k, P.underlying t = some (.int k) := by
  unfold scalar at h; split at h <;> first | cases h; done | exact ⟨_, ‹_›⟩
theorem scalar_str {P : Program} {t : TypeId} (h : scalar P t = some .str) : P.underlying t = some .string := by
  unfold scalar at h; split at h <;> first | cases h; done | assumption
def scEq : Sc → AVal → AVal → Option Bool
  | .bool, .lit (.bool a), .lit (.bool b) => some (a == b)
  | .int, .lit (.int k a), .lit (.int k' b) => if k = k' then some (decide (a = b)) else none
  | .str, .lit (.string a), .lit (.string b) => some (decide (a = b))
  | _, _, _ => none
def eqFields (P : Program) : List Field → Option (List (Nat × Sc))
  | [] => some []
  | f :: fs => match scalar P f.type, eqFields P fs with
    | some s, some l => if f.name ≠ "_" then some ((f.offset, s) :: l) else none
    | _, _ => none
def eqStruct (P : Program) (t : TypeId) : Option (List (Nat × Sc)) :=
  match P.underlying t with
  | some (.struct fs) => if P.stoodInHeld t = false ∧ P.eqGuardType P.depth t = false then eqFields P fs.toList else none
  | _ => none
def aEqFields : List (Nat × Sc) → List AVal → List AVal → Option Bool
  | [], _, _ => some true
  | (o, s) :: l, xs, ys => match xs[o]?, ys[o]? with
    | some x, some y => match scEq s x y, aEqFields l xs ys with
      | some b, some r => some (b && r)
      | _, _ => none
    | _, _ => none
theorem run_scEq {P : Program} {g : Gh} {t : TypeId} {s : Sc} {x y : AVal} {cx cy : Value} {b : Bool} (hs : scalar P t = some s) (h : scEq s x y = some b) (kx : VR g x cx) (ky : VR g y cy) (d : Nat) (w : World) :
    (Op.equalIn (d + 1) t cx cy).run P w = .ok b w := by
  unfold scEq at h
  split at h <;> try (cases h; done)
  · simp only [VR] at kx ky; subst kx; subst ky
    cases h
    exact run_equalIn_bool' w d t _ _ (scalar_bool hs)
  · simp only [VR] at kx ky; subst kx; subst ky
    split at h <;> cases h
    rename_i hk
    subst hk
    obtain ⟨k', hk⟩ := scalar_int hs
    rw [run_equalIn_int w d t _ k' _ _ hk, int_beq]
  · simp only [VR] at kx ky; subst kx; subst ky
    cases h
    rw [run_equalIn_string w d t _ _ (scalar_str hs), bytes_beq]
theorem tyAgg_of_scalar {P : Program} {t : TypeId} {s : Sc} (h : scalar P t = some s) : tyAgg P t = some false := by
  unfold scalar at h
  unfold tyAgg
  split at h <;> simp_all
theorem run_eqFields {P : Program} {g : Gh} (d : Nat) {cs ds : List AVal} {xs ys : List Value} (kx : VRs g cs xs) (ky : VRs g ds ys) (w : World) :
    ∀ (fs : List Field) (l : List (Nat × Sc)) (b : Bool), eqFields P fs = some l → aEqFields l cs ds = some b → (Op.eqFields (d + 1) ⟨xs⟩ ⟨ys⟩ fs).run P w = .ok b w
  | [], l, b, h, k => by
    simp only [eqFields] at h; cases h
    simp only [aEqFields] at k; cases k
    simp [Op.eqFields]
  | f :: fs, l, b, h, k => by
    simp only [eqFields] at h
    split at h <;> try (cases h; done)
    rename_i s l' hs hl
    split at h <;> cases h
    rename_i hn
    simp only [aEqFields] at k
    split at k <;> try (cases k; done)
    rename_i x y hx hy
    split at k <;> cases k
    rename_i b' r hb hr
    obtain ⟨cx, ex, rx⟩ := kx.get _ _ hx
    obtain ⟨cy, ey, ry⟩ := ky.get _ _ hy
    have ih := run_eqFields d kx ky w fs l' r hl hr
    have hagg := tyAgg_of_scalar hs
    have px : (part f.type ⟨xs⟩ f.offset).run P w = .ok cx w := by simp [part, run_isAgg hagg, ex]
    have py : (part f.type ⟨ys⟩ f.offset).run P w = .ok cy w := by simp [part, run_isAgg hagg, ey]
    have he := run_scEq hs hb rx ry d w
    simp only [Op.eqFields, hn, ne_eq, not_false_eq_true, if_true, Sem.run_bind, px, py, he, Result.andThen_ok]
    cases b'
    · simp
    · simp [ih]
def isConstOp : Operand → Bool
  | .const _ => true
  | _ => false
/-- '==' and '!=' of values that are no numbers or strings. -/
def aEql (P : Program) (t : TypeId) (cst : Bool) (x y : AVal) : Option Bool :=
  match x, y with
  | .lit (.bool a), .lit (.bool b) => match P.underlying t with | some .bool => some (a == b) | _ => none
  | .agg cs, .agg ds => match eqStruct P t with
    | some l => aEqFields l cs ds
    | none => none
  | .ifc _ _, .lit .nilIface => match P.underlying t with | some (.interface _) => some false | _ => none
  | .lit .nilIface, .lit .nilIface => match P.underlying t with | some (.interface _) => if cst then some true else none | _ => none
  | .ptr _ _, .lit (.pointer none) => match P.underlying t with | some (.pointer _) => some false | _ => none
  | .lit (.pointer none), .lit (.pointer none) => match P.underlying t with | some (.pointer _) => some true | _ => none
  | _, _ => none
theorem eq_if (P : Program) (d : Nat) (t : TypeId) (ms : Array (String × TypeId)) (hu : P.underlying t = some (.interface ms)) (u : TypeId) (x : Value) (w : World) : (Op.equalIn (d + 1) t (.iface u x) .nilIface).run P w = .ok false w := by
  simp only [Op.equalIn, Sem.run_bind, run_underlying hu, Result.andThen_ok, Sem.run_pure]
theorem eq_ii (P : Program) (d : Nat) (t : TypeId) (ms : Array (String × TypeId)) (hu : P.underlying t = some (.interface ms)) (w : World) : (Op.equalIn (d + 1) t .nilIface .nilIface).run P w = .ok true w := by
  simp only [Op.equalIn, Sem.run_bind, run_underlying hu, Result.andThen_ok, Sem.run_pure]
theorem eq_pn (P : Program) (d : Nat) (t e : TypeId) (hu : P.underlying t = some (.pointer e)) (a : Addr) (w : World) : (Op.equalIn (d + 1) t (.pointer (some a)) (.pointer none)).run P w = .ok false w := by
  simp only [Op.equalIn, Sem.run_bind, run_underlying hu, Result.andThen_ok, Sem.run_pure]
theorem eq_nn (P : Program) (d : Nat) (t e : TypeId) (hu : P.underlying t = some (.pointer e)) (w : World) : (Op.equalIn (d + 1) t (.pointer none) (.pointer none)).run P w = .ok true w := by
  simp only [Op.equalIn, Sem.run_bind, run_underlying hu, Result.andThen_ok, Sem.run_pure]; rfl
theorem eql_of {P : Program} {t : TypeId} {X Y : Operand} {cx cy : Value} {b : Bool} {w : World} (hb : ∀ op, op = .eql ∨ op = .neq → binOp op t cx cy = (match op with | .eql => (do pure (.bool (← Op.equal t cx cy))) | _ => (do pure (.bool (!(← Op.equal t cx cy))))))
    (hg : ∀ op, op = .eql ∨ op = .neq → (eqGuard op t X Y cx cy).run P w = .ok () w) (he : (Op.equalIn (9999 + 1) t cx cy).run P w = .ok b w) :
    ((do eqGuard .eql t X Y cx cy; binOp .eql t cx cy : Sem Value).run P w = .ok (.bool b) w) ∧ ((do eqGuard .neq t X Y cx cy; binOp .neq t cx cy : Sem Value).run P w = .ok (.bool (!b)) w) := by
  have he' : (Op.equal t cx cy).run P w = .ok b w := he
  constructor
  · rw [Sem.run_bind, hg _ (.inl rfl), Result.andThen_ok, hb _ (.inl rfl)]
    simp only [Sem.run_bind, he', Result.andThen_ok, Sem.run_pure]
  · rw [Sem.run_bind, hg _ (.inr rfl), Result.andThen_ok, hb _ (.inr rfl)]
    simp only [Sem.run_bind, he', Result.andThen_ok, Sem.run_pure]
theorem run_aEql {P : Program} {g : Gh} {t : TypeId} {X Y : Operand} {x y : AVal} {cx cy : Value} {b : Bool} (h : aEql P t (isConstOp X || isConstOp Y) x y = some b) (kx : VR g x cx) (ky : VR g y cy) (w : World) :
    ((do eqGuard .eql t X Y cx cy; binOp .eql t cx cy : Sem Value).run P w = .ok (.bool b) w) ∧ ((do eqGuard .neq t X Y cx cy; binOp .neq t cx cy : Sem Value).run P w = .ok (.bool (!b)) w) := by
  unfold aEql at h
  split at h
  · simp only [VR] at kx ky; subst kx; subst ky
    split at h <;> cases h
    rename_i hu
    exact eql_of (fun op ho => by rcases ho with rfl | rfl <;> rfl) (fun op ho => by rcases ho with rfl | rfl <;> rfl) (run_equalIn_bool' w 9999 t _ _ hu)
  · simp only [VR] at kx ky
    obtain ⟨xs, rfl, kx⟩ := kx
    obtain ⟨ys, rfl, ky⟩ := ky
    split at h <;> try (cases h; done)
    rename_i l hl
    unfold eqStruct at hl
    split at hl <;> try (cases hl; done)
    rename_i fs hu
    split at hl <;> try (cases hl; done)
    rename_i hg
    have hf : P.fieldsOf t = fs := by simp [Program.fieldsOf, hu]
    have hu' : P.underlying t = some (.struct (P.fieldsOf t)) := by rw [hf]; exact hu
    have he : (Op.equalIn (9999 + 1) t (.agg ⟨xs⟩) (.agg ⟨ys⟩)).run P w = .ok b w := by
      rw [run_equalIn_struct w 9999 t _ _ hu' hg.1, hf]
      exact run_eqFields 9998 kx ky w fs.toList l b hl h
    exact eql_of (fun op ho => by rcases ho with rfl | rfl <;> rfl) (fun op ho => run_eqGuard_agg w _ _ _ _ _ _ hg.2) he
  · simp only [VR] at kx ky
    obtain ⟨xv, rfl, kx⟩ := kx; subst ky
    split at h <;> cases h
    rename_i hu
    exact eql_of (fun op ho => by rcases ho with rfl | rfl <;> rfl) (fun op ho => by rcases ho with rfl | rfl <;> rfl) (eq_if P 9999 t _ hu _ _ w)
  · simp only [VR] at kx ky
    subst kx; subst ky
    split at h <;> try (cases h; done)
    rename_i hu
    split at h <;> cases h
    rename_i hc
    refine eql_of (fun op ho => by rcases ho with rfl | rfl <;> rfl) (fun op ho => ?_) (eq_ii P 9999 t _ hu w)
    rcases ho with rfl | rfl <;> cases X <;> cases Y <;> first | (simp [isConstOp] at hc; done) | rfl
  · simp only [VR] at kx ky
    obtain ⟨b', e, rfl⟩ := kx; subst ky
    split at h <;> cases h
    rename_i hu
    exact eql_of (fun op ho => by rcases ho with rfl | rfl <;> rfl) (fun op ho => by rcases ho with rfl | rfl <;> rfl) (eq_pn P 9999 t _ hu _ w)
  · simp only [VR] at kx ky
    subst kx; subst ky
    split at h <;> cases h
    rename_i hu
    exact eql_of (fun op ho => by rcases ho with rfl | rfl <;> rfl) (fun op ho => by rcases ho with rfl | rfl <;> rfl) (eq_nn P 9999 t _ hu w)
  · cases h
def aBin (P : Program) (op : BinOp) (t : TypeId) (cst : Bool) (x y : AVal) : Option AVal :=
  match op, x, y with
  | .shl, .lit (.int k a), .lit (.int _ b) => (intShift .shl k a b).map .lit
  | .shr, .lit (.int k a), .lit (.int _ b) => (intShift .shr k a b).map .lit
  | op, .lit (.int k a), .lit (.int k' b) => if k = k' then (intBin op k a b).map .lit else none
  | op, .lit (.string a), .lit (.string b) => (strBin op a b).map .lit
  | .eql, x, y => (aEql P t cst x y).map fun b => .lit (.bool b)
  | .neq, x, y => (aEql P t cst x y).map fun b => .lit (.bool !b)
  | _, _, _ => none
theorem run_aBin {P : Program} {g : Gh} {op : BinOp} {t : TypeId} {X Y : Operand} {x y v : AVal} {cx cy : Value} (h : aBin P op t (isConstOp X || isConstOp Y) x y = some v) (kx : VR g x cx) (ky : VR g y cy) (w : World) :
    ∃ c, (do eqGuard op t X Y cx cy; binOp op t cx cy : Sem Value).run P w = .ok c w ∧ VR g v c := by
  unfold aBin at h
  split at h
  · simp only [VR] at kx ky; subst kx; subst ky
    obtain ⟨c, hc, rfl⟩ := Option.map_eq_some_iff.1 h
    exact ⟨c, by simp [eqGuard, run_intShift hc], by simp [VR]⟩
  · simp only [VR] at kx ky; subst kx; subst ky
    obtain ⟨c, hc, rfl⟩ := Option.map_eq_some_iff.1 h
    exact ⟨c, by simp [eqGuard, run_intShift hc], by simp [VR]⟩
  · simp only [VR] at kx ky; subst kx; subst ky
    split at h <;> try (cases h; done)
    rename_i hk; subst hk
    obtain ⟨c, hc, rfl⟩ := Option.map_eq_some_iff.1 h
    refine ⟨c, ?_, by simp [VR]⟩
    have : ∀ (op : BinOp) a b, (eqGuard op t X Y (.int ‹IntKind› a) (.int ‹IntKind› b)).run P w = .ok () w := by intro op a b; cases op <;> simp [eqGuard]
    rw [Sem.run_bind, this, Result.andThen_ok, run_intBin hc]
  · simp only [VR] at kx ky; subst kx; subst ky
    obtain ⟨c, hc, rfl⟩ := Option.map_eq_some_iff.1 h
    refine ⟨c, ?_, by simp [VR]⟩
    have : ∀ (op : BinOp) a b, (eqGuard op t X Y (.string a) (.string b)).run P w = .ok () w := by intro op a b; cases op <;> simp [eqGuard]
    rw [Sem.run_bind, this, Result.andThen_ok, run_strBin hc]
  · obtain ⟨c, hc, rfl⟩ := Option.map_eq_some_iff.1 h
    exact ⟨_, (run_aEql hc kx ky w).1, by simp [VR]⟩
  · obtain ⟨c, hc, rfl⟩ := Option.map_eq_some_iff.1 h
    exact ⟨_, (run_aEql hc kx ky w).2, by simp [VR]⟩
  · cases h
/-! ### one operand -/
def aUn (op : UnOp) (x : AVal) : Option AVal :=
  match op, x with
  | .neg, .lit (.int k n) => some (.lit (.int k (k.wrap (0 - n))))
  | .xor, .lit (.int k n) => some (.lit (.int k (k.wrap (BitVec.ofInt k.bits (if k.signed then -1 else k.max) ^^^ BitVec.ofInt k.bits n).toNat)))
  | .not, .lit (.bool b) => some (.lit (.bool !b))
  | _, _ => none
theorem run_aUn {P : Program} {g : Gh} {op : UnOp} {x v : AVal} {cx : Value} (h : aUn op x = some v) (kx : VR g x cx) (w : World) : ∃ c, (Op.unary op cx).run P w = .ok c w ∧ VR g v c := by
  unfold aUn at h
  split at h <;> cases h <;> simp only [VR] at kx <;> subst kx
  · exact ⟨_, rfl, by simp only [VR]⟩
  · exact ⟨_, rfl, by simp only [VR]⟩
  · exact ⟨_, rfl, by simp only [VR]⟩
/-- The bytes of cells. -/
def byteOf? : AVal → Option UInt8
  | .lit (.int .u8 n) => some (UInt8.ofNat n.toNat)
  | _ => none
def bytesOf? : List AVal → Option (List UInt8)
  | [] => some []
  | c :: cs => match byteOf? c, bytesOf? cs with
    | some b, some l => some (b :: l)
    | _, _ => none
/-- Conversions that make no memory. -/
def aConv (P : Program) (s t : TypeId) (x : AVal) : Option AVal :=
  match P.underlying s, P.underlying t, x with
  | some _, some (.int k), .lit (.int _ n) => some (.lit (.int k (k.wrap n)))
  | some _, some .string, .lit (.int _ n) => some (.lit (.string (Utf8.encode n)))
  | some _, some .string, .lit (.string s) => some (.lit (.string s))
  | some (.slice e), some .string, .sl n cs _ => match P.underlying e with
    | some (.int .u8) => if cs.length = n then (bytesOf? cs).map fun l => .lit (.string ⟨⟨l⟩⟩) else none
    | _ => none
  | _, _, _ => none
def BytesAre : List Value → List UInt8 → Prop
  | [], l => l = []
  | v :: vs, l => ∃ n l', v = .int .u8 n ∧ l = UInt8.ofNat n.toNat :: l' ∧ BytesAre vs l'
theorem run_toString {P : Program} {w : World} {a : Addr} {n c : Nat} {vs : List Value} {l : List UInt8} (h : (loadCells a n).run P w = .ok ⟨vs⟩ w) (hb : BytesAre vs l) :
    (Conv.bytesToString (.slice (some a) n c)).run P w = .ok (.string ⟨⟨l⟩⟩) w := by
  simp only [Conv.bytesToString, Sem.run_bind, h, Result.andThen_ok]
  rw [← Array.forIn_toList]
  have e : l = ByteArray.empty.data.toList ++ l := rfl
  rw [e]
  clear e h
  generalize ByteArray.empty = acc
  show (Sem.run P (forIn vs acc _) w).andThen _ = _
  induction vs generalizing acc l with
  | nil => simp only [BytesAre] at hb; subst hb; simp
  | cons v vs ih =>
    obtain ⟨n, l', rfl, rfl, hb⟩ := hb
    have := ih hb (acc.push (UInt8.ofNat n.toNat))
    simp only [List.forIn_cons, Sem.run_bind, Sem.run_pure, Result.andThen_ok] at this ⊢
    rw [this]
    simp [ByteArray.push]
theorem run_bytes {P : Program} {g : Gh} {w : World} {μ : AMem} (hs : Sim P g w μ) {b : Nat} : ∀ (cs : List AVal) (o : Nat) (l : List UInt8), bytesOf? cs = some l → VC g b o cs →
    ∃ vs : List Value, vs.length = cs.length ∧ (∀ j v, vs[j]? = some v → w.cell? ⟨b, o + j, none⟩ = some v) ∧ BytesAre vs l
  | [], o, l, h, k => by
    simp only [bytesOf?] at h; cases h
    exact ⟨[], rfl, by simp, rfl⟩
  | c :: cs, o, l, h, k => by
    simp only [bytesOf?] at h
    split at h <;> cases h
    rename_i b' l' hb hl
    simp only [VC] at k
    obtain ⟨⟨x, hx, rx⟩, k⟩ := k
    obtain ⟨vs, hlen, hv, hr⟩ := run_bytes hs cs (o + 1) l' hl k
    unfold byteOf? at hb
    split at hb <;> cases hb
    rename_i n
    simp only [VR] at rx
    subst rx
    refine ⟨.int .u8 n :: vs, by simp [hlen], fun j v hj => ?_, n, l', rfl, rfl, hr⟩
    cases j with
    | zero =>
      simp at hj; subst hj
      obtain ⟨cs', e, fr, hh, hc⟩ := hs.imm _ _ _ hx
      simp [World.cell?, hh, hc]
    | succ j => simp at hj; rw [show o + (j + 1) = o + 1 + j by omega]; exact hv j v hj
theorem run_aConv {P : Program} {g : Gh} {w : World} {μ : AMem} (hs : Sim P g w μ) {s t : TypeId} {x v : AVal} {cx : Value} (h : aConv P s t x = some v) (kx : VR g x cx) : ∃ c, (convert s t cx).run P w = .ok c w ∧ VR g v c := by
  unfold aConv at h
  split at h
  · rename_i hu1 hu2
    cases h; simp only [VR] at kx; subst kx
    refine ⟨_, ?_, by simp only [VR]; rfl⟩
    simp [convert, run_underlying hu1, run_underlying hu2, Conv.intToInt]
  · rename_i hu1 hu2
    cases h; simp only [VR] at kx; subst kx
    refine ⟨_, ?_, by simp only [VR]; rfl⟩
    simp [convert, run_underlying hu1, run_underlying hu2, Conv.intToString]
  · rename_i hu1 hu2
    cases h; simp only [VR] at kx; subst kx
    refine ⟨_, ?_, by simp only [VR]; rfl⟩
    simp [convert, run_underlying hu1, run_underlying hu2]
  · rename_i hu1 hu2
    split at h <;> try (cases h; done)
    rename_i hu3
    split at h <;> try (cases h; done)
    rename_i hn
    obtain ⟨l, hl, rfl⟩ := Option.map_eq_some_iff.1 h
    simp only [VR] at kx
    obtain ⟨A, c, rfl, hnc, htk, kx⟩ := kx
    refine ⟨.string ⟨⟨l⟩⟩, ?_, by simp only [VR]⟩
    simp only [convert, Sem.run_bind, run_underlying hu1, run_underlying hu2, run_underlying hu3, Result.andThen_ok]
    rcases kx with ⟨rfl, rfl⟩ | ⟨b, o, rfl, kx⟩
    · simp only [bytesOf?] at hl; cases hl
      cases A with
      | none => rfl
      | some a => exact run_toString (vs := []) rfl rfl
    · obtain ⟨vs, hlen, hv, hr⟩ := run_bytes hs _ o l hl kx
      have hlc := run_loadCells_list (P := P) w ⟨b, o, none⟩ vs fun j u hj => by rw [Addr.add_mid]; exact hv j u hj
      rw [hlen, hn] at hlc
      exact run_toString hlc hr
  · cases h
end Go.Proofs.YtjleeecaebgblaaGreatDoor.AL
namespace Go.Proofs.YtjleeecaebgblaaGreatDoor.AL
open Go.RowKit
theorem MR.mono {g g' : Gh} (h : g.le g') : ∀ (es : List (Value × AVal)) (ms : List MapEntry), MR g es ms → MR g' es ms
  | [], _, k => by simpa [MR] using k
  | e :: es, ms, k => by
    simp only [MR] at k ⊢; obtain ⟨m, ms', e1, e2, k1, k2⟩ := k; exact ⟨m, ms', e1, e2, VR.mono h _ _ k1, MR.mono h es ms' k2⟩
theorem BR.mono {P : Program} {g g' : Gh} (h : g.le g') {w w' : World} {i b : Nat} (hb : w'.heap[b]? = w.heap[b]?) : ∀ {k : ABlk}, BR P g w i b k → BR P g' w' i b k
  | .row e cs, k => by simp only [BR] at k ⊢; obtain ⟨vs, sp, c, e, r, hc, hl⟩ := k; exact ⟨vs, sp, c, hb.trans e, VRs.mono h _ _ r, h.Cp _ _ hc, hl⟩
  | .cells t cs, k => by simp only [BR] at k ⊢; obtain ⟨vs, e, r⟩ := k; exact ⟨vs, hb.trans e, VRs.mono h _ _ r⟩
  | .map kk es, k => by simp only [BR] at k ⊢; obtain ⟨ms, clk, e, r, o⟩ := k; exact ⟨ms, clk, hb.trans e, MR.mono h _ _ r, o⟩
  | .dead, _ => by simp [BR]
  | .loop L, k => by simp only [BR] at k ⊢; obtain ⟨fn, tmps, asgn, body, ds, e, r, hi⟩ := k; exact ⟨fn, tmps, asgn, body, ds, hb.trans e, ⟨r.1, fun t => VR.mono h _ _ (r.2 t)⟩, hi⟩
  | .dfr, k => by simp only [BR] at k ⊢; exact hb.trans k
  | .mapP kk es k' s, k => by
    simp only [BR] at k ⊢; obtain ⟨ms, clk, e, r, o1, o2, o3, o4, born, n, ty, j, m, ht, r2⟩ := k; exact ⟨ms, clk, hb.trans e, MR.mono h _ _ r, o1, o2, o3, o4, born, n, ty, j, m, h.T _ _ ht, r2⟩
theorem heap_alloc_new' (w : World) (o : Obj) : (w.alloc o).heap[w.heap.size]? = some o := heap_alloc_new w o
theorem heap_alloc_old (w : World) (o : Obj) {k : Nat} (h : k < w.heap.size) : (w.alloc o).heap[k]? = w.heap[k]? := Below.heap_alloc w o k h
theorem Sim.H_new {P : Program} {g : Gh} {w : World} {μ : AMem} (h : Sim P g w μ) (b o : Nat) (hb : w.heap.size ≤ b) : g.H b o = none := by
  cases e : g.H b o with
  | none => rfl
  | some x =>
    obtain ⟨cs, t, fr, hh, _⟩ := h.imm b o x e
    rw [Array.getElem?_eq_none hb] at hh; cases hh
theorem Sim.φ_new {P : Program} {g : Gh} {w : World} {μ : AMem} (h : Sim P g w μ) {i : Nat} (hi : μ.blks.length ≤ i) : g.φ i = none := by
  cases e : g.φ i with
  | none => rfl
  | some b => have := (h.lt i b e).1; omega
/-- g, with a name for a block. -/
def Gh.name (g : Gh) (i b : Nat) (c : Option Nat := none) : Gh := { g with φ := fun j => if j = i then some b else g.φ j, Cp := fun j => if j = i then c else g.Cp j }
theorem Gh.le_name {g : Gh} {i b : Nat} {c : Option Nat} (h : g.φ i = none) (hc : g.Cp i = none) : g.le (g.name i b c) :=
  ⟨fun j c e => by
    simp only [Gh.name]; split
    · subst_vars; rw [h] at e; cases e
    · exact e, fun _ _ _ e => e, fun _ _ e => e, fun j x e => by
    simp only [Gh.name]; split
    · subst_vars; rw [hc] at e; cases e
    · exact e⟩
theorem Sim.Cp_none {P : Program} {g : Gh} {w : World} {μ : AMem} (h : Sim P g w μ) {i : Nat} (hi : g.φ i = none) : g.Cp i = none := by
  cases e : g.Cp i with
  | none => rfl
  | some c => obtain ⟨b, hb⟩ := h.cpl i c e; rw [hi] at hb; cases hb
/-- A NEW BLOCK of the abstract memory. -/
theorem Sim.alloc {P : Program} {g : Gh} {w : World} {μ : AMem} (h : Sim P g w μ) (o : Obj) (k : ABlk) (cp : Option Nat) (hk : BR P (g.name μ.blks.length w.heap.size cp) (w.alloc o) μ.blks.length w.heap.size k) (hd : k.isDead = false) :
    Sim P (g.name μ.blks.length w.heap.size cp) (w.alloc o) { μ with blks := μ.blks ++ [k] } ∧ St g w μ (g.name μ.blks.length w.heap.size cp) (w.alloc o) { μ with blks := μ.blks ++ [k] } := by
  have hle : g.le (g.name μ.blks.length w.heap.size cp) := Gh.le_name (h.φ_new (Nat.le_refl _)) (h.Cp_none (h.φ_new (Nat.le_refl _)))
  have hφ : ∀ i b, (g.name μ.blks.length w.heap.size cp).φ i = some b → (i = μ.blks.length ∧ b = w.heap.size) ∨ (i < μ.blks.length ∧ g.φ i = some b) := by
    intro i b e
    simp only [Gh.name] at e
    split at e
    · cases e; exact .inl ⟨by assumption, rfl⟩
    · exact .inr ⟨(h.lt i b e).1, e⟩
  have hget : ∀ i, i < μ.blks.length → (μ.blks ++ [k])[i]? = μ.blks[i]? := fun i hi => List.getElem?_append_left hi
  have hnew : (μ.blks ++ [k])[μ.blks.length]? = some k := by simp
  constructor
  · constructor
    · intro i b e
      rcases hφ i b e with ⟨rfl, rfl⟩ | ⟨hi, e⟩
      · simp
      · have := (h.lt i b e).2; simp; omega
    · intro i j b x y e e' hx hy dx dy
      rcases hφ i b e with ⟨h1, h2⟩ | ⟨h1, h2⟩ <;> rcases hφ j b e' with ⟨h3, h4⟩ | ⟨h3, h4⟩
      · rw [h1, h3]
      · have := (h.lt j _ h4).2; omega
      · have := (h.lt i _ h2).2; omega
      · rw [hget i h1] at hx; rw [hget j h3] at hy; exact h.inj i j b x y h2 h4 hx hy dx dy
    · intro i c e
      simp only [Gh.name] at e ⊢
      split at e
      · rename_i hi; rw [if_pos hi]; exact ⟨_, rfl⟩
      · rename_i hi; rw [if_neg hi]; exact h.cpl i c e
    · intro i b k' e hk'
      rcases hφ i b e with ⟨rfl, rfl⟩ | ⟨hi, e⟩
      · rw [hnew] at hk'; cases hk'; exact hk
      · rw [hget i hi] at hk'
        exact BR.mono hle (heap_alloc_old w o (h.lt i b e).2) (h.blk i b k' e hk')
    · intro b o' x e
      obtain ⟨cs, t, fr, hh, hc⟩ := h.imm b o' x e
      exact ⟨cs, t, fr, (heap_alloc_old w o (Array.getElem?_eq_some_iff.1 hh).1).trans hh, hc⟩
    · intro i b k' o' e hk' hd'
      rcases hφ i b e with ⟨rfl, rfl⟩ | ⟨hi, e⟩
      · exact h.H_new _ _ (Nat.le_refl _)
      · rw [hget i hi] at hk'; exact h.sep i b k' o' e hk' hd'
    · intro s b c n e ht
      have := h.tlt s b c n e ht
      simp; omega
    · intro s b c n e hs ht
      obtain ⟨cs, hh, r⟩ := h.tk s b c n e hs ht
      exact ⟨cs, (heap_alloc_old w o (Array.getElem?_eq_some_iff.1 hh).1).trans hh, r⟩
    · intro s b c n e i k' hs ht e' hk'
      rcases hφ i b e' with ⟨rfl, rfl⟩ | ⟨hi, e'⟩
      · have := h.tlt s _ c n e ht; omega
      · rw [hget i hi] at hk'; exact h.tsep s b c n e i k' hs ht e' hk'
    · exact h.tinj
    · exact h.nd
    · exact h.ll
    · exact h.tf
    · intro b cs e; exact VC.mono hle _ _ _ (h.gl b cs e)
  · refine ⟨hle, fun i hi => ?_, by simp, fun _ _ _ _ => rfl, ⟨rfl, rfl, rfl, by simp, fun b hb _ => heap_alloc_old w o hb⟩, fun b hb ho => ?_⟩
    · simp only [Gh.name]; rw [if_neg (by omega)]
    · rcases ho with ⟨i, e⟩ | ho
      · rcases hφ i b e with ⟨rfl, rfl⟩ | ⟨hi, e⟩
        · omega
        · exact .inl ⟨i, e⟩
      · exact .inr ho
/-- g, with the cells of a block known for good. -/
def Gh.fix (g : Gh) (b : Nat) (vs : List Value) : Gh := { g with H := fun c o => if c = b then vs[o]? else g.H c o }
theorem Gh.le_fix {g : Gh} {b : Nat} {vs : List Value} (h : ∀ o, g.H b o = none) : g.le (g.fix b vs) :=
  ⟨fun _ _ e => e, fun c o x e => by
    simp only [Gh.fix]; split
    · subst_vars; rw [h] at e; cases e
    · exact e, fun _ _ e => e, fun _ _ e => e⟩
/-- A NEW BLOCK THAT NEVER CHANGES. -/
theorem Sim.fix {P : Program} {g : Gh} {w : World} {μ : AMem} (h : Sim P g w μ) (vs : List Value) (t : TypeId) (fr : Nat × Nat) :
    Sim P (g.fix w.heap.size vs) (w.alloc (.cells ⟨vs⟩ t fr)) μ ∧ St g w μ (g.fix w.heap.size vs) (w.alloc (.cells ⟨vs⟩ t fr)) μ := by
  have hle : g.le (g.fix w.heap.size vs) := Gh.le_fix fun o => h.H_new _ _ (Nat.le_refl _)
  constructor
  · constructor
    · intro i b e; have := h.lt i b e; simp; omega
    · exact h.inj
    · exact h.cpl
    · intro i b k e hk
      exact BR.mono hle (heap_alloc_old w _ (h.lt i b e).2) (h.blk i b k e hk)
    · intro b o x e
      simp only [Gh.fix] at e
      split at e
      · subst_vars
        exact ⟨⟨vs⟩, t, fr, heap_alloc_new' w _, by simpa using e⟩
      · obtain ⟨cs, t, fr, hh, hc⟩ := h.imm b o x e
        exact ⟨cs, t, fr, (heap_alloc_old w _ (Array.getElem?_eq_some_iff.1 hh).1).trans hh, hc⟩
    · intro i b k o e hk hd
      have := (h.lt i b e).2
      simp only [Gh.fix]; rw [if_neg (by omega)]
      exact h.sep i b k o e hk hd
    · intro s b c n e ht; have := h.tlt s b c n e ht; simp; omega
    · intro s b c n e hs ht
      obtain ⟨cs, hh, hs', hn⟩ := h.tk s b c n e hs ht
      have := h.tlt s b c n e ht
      exact ⟨cs, (heap_alloc_old w _ (Array.getElem?_eq_some_iff.1 hh).1).trans hh, hs', fun o ho => by simp only [Gh.fix]; rw [if_neg (by omega)]; exact hn o ho⟩
    · exact h.tsep
    · exact h.tinj
    · exact h.nd
    · exact h.ll
    · exact h.tf
    · intro b cs e; exact VC.mono hle _ _ _ (h.gl b cs e)
  · exact ⟨hle, fun _ _ => rfl, Nat.le_refl _, fun b o hb _ => by simp only [Gh.fix]; rw [if_neg (by omega)], ⟨rfl, rfl, rfl, by simp, fun b hb _ => heap_alloc_old w _ hb⟩, fun b hb ho => ho⟩
/-- Where the new block's cells are known. -/
theorem VC_fix {g : Gh} {b : Nat} {vs : List Value} {cs : List AVal} (h : VRs (g.fix b vs) cs vs) : VC (g.fix b vs) b 0 cs :=
  VC.of fun i a hi => by
    obtain ⟨v, e, r⟩ := h.get i a hi
    exact ⟨v, by simp [Gh.fix, e], r⟩
/-- A BLOCK OF THE ABSTRACT MEMORY IS WRITTEN. -/
theorem Sim.write {P : Program} {g : Gh} {w w' : World} {μ : AMem} (h : Sim P g w μ) {i b : Nat} {k k' : ABlk} (hi : g.φ i = some b) (hk : μ.blks[i]? = some k) (hd : k.isDead = false)
    (hos : w'.os = w.os) (htp : w'.tape = w.tape) (hou : w'.output = w.output) (hsz : w'.heap.size = w.heap.size) (hoth : ∀ c, c ≠ b → w'.heap[c]? = w.heap[c]?) (hb : BR P g w' i b k') :
    Sim P g w' { μ with blks := μ.blks.set i k' } ∧ St g w μ g w' { μ with blks := μ.blks.set i k' } := by
  have hlt := h.lt i b hi
  have hget : ∀ j, j ≠ i → (μ.blks.set i k')[j]? = μ.blks[j]? := fun j hj => List.getElem?_set_ne (Ne.symm hj)
  have hself : (μ.blks.set i k')[i]? = some k' := by simp [hlt.1]
  constructor
  · constructor
    · intro j c e; have := h.lt j c e; simp; omega
    · intro j1 j2 c x y e e' hx hy dx dy
      have old : ∀ (j : Nat) (x : ABlk), (μ.blks.set i k')[j]? = some x → x.isDead = false → ∃ y : ABlk, μ.blks[j]? = some y ∧ y.isDead = false := by
        intro j x hx dx
        by_cases hj : j = i
        · subst hj; exact ⟨k, hk, hd⟩
        · rw [hget j hj] at hx; exact ⟨x, hx, dx⟩
      obtain ⟨x', hx', dx'⟩ := old j1 x hx dx
      obtain ⟨y', hy', dy'⟩ := old j2 y hy dy
      exact h.inj j1 j2 c x' y' e e' hx' hy' dx' dy'
    · exact h.cpl
    · intro j c q e hq
      by_cases hj : j = i
      · subst hj
        rw [hi] at e; cases e
        rw [hself] at hq; cases hq; exact hb
      · rw [hget j hj] at hq
        cases hdq : q.isDead with
        | true => cases q <;> first | (simp only [BR]; done) | cases hdq
        | false => exact BR.mono (.refl g) (hoth c fun hc => hj (h.inj j i b q k (hc ▸ e) hi hq hk hdq hd)) (h.blk j c q e hq)
    · intro c o x e
      obtain ⟨cs, t, fr, hh, hc⟩ := h.imm c o x e
      refine ⟨cs, t, fr, (hoth c fun hcb => ?_).trans hh, hc⟩
      subst hcb
      rw [h.sep i c k o hi hk hd] at e; cases e
    · intro j c q o e hq hdq
      by_cases hj : j = i
      · subst hj
        rw [hi] at e; cases e
        exact h.sep j b k o hi hk hd
      · rw [hget j hj] at hq; exact h.sep j c q o e hq hdq
    · intro s c n m e ht; have := h.tlt s c n m e ht; omega
    · intro s c n m e hs ht
      obtain ⟨cs, hh, r⟩ := h.tk s c n m e hs ht
      refine ⟨cs, (hoth c fun hcb => ?_).trans hh, r⟩
      subst hcb
      have := h.tsep s c n m e i k hs ht hi hk
      rw [hd] at this; cases this
    · intro s c n m e j q hs ht ej hq
      by_cases hj : j = i
      · subst hj
        rw [hi] at ej; cases ej
        have := h.tsep s b n m e j k hs ht hi hk
        rw [hd] at this; cases this
      · rw [hget j hj] at hq; exact h.tsep s c n m e j q hs ht ej hq
    · exact h.tinj
    · exact h.nd
    · exact h.ll
    · exact h.tf
    · exact h.gl
  · refine ⟨.refl g, fun _ _ => rfl, by simp, fun _ _ _ _ => rfl, ⟨hos, htp, hou, by omega, fun c hc ho => hoth c fun hcb => ho ?_⟩, fun c _ ho => ho⟩
    subst hcb; exact .inl ⟨i, hi⟩
/-- What looks into memory looks alike where memory is alike. -/
theorem Sim.drew {P : Program} {g : Gh} {w w' : World} {μ : AMem} (h : Sim P g w μ) (hh : w'.heap = w.heap) (hos : w'.os = w.os) (htp : w'.tape = w.tape) (hou : w'.output = w.output) :
    Sim P g w' μ ∧ St g w μ g w' μ := by
  constructor
  · constructor
    · intro i b e; rw [hh]; exact h.lt i b e
    · exact h.inj
    · exact h.cpl
    · intro i b k e hk; exact BR.mono (.refl g) (by rw [hh]) (h.blk i b k e hk)
    · intro b o x e; rw [hh]; exact h.imm b o x e
    · exact h.sep
    · intro s b c n e ht; rw [hh]; exact h.tlt s b c n e ht
    · intro s b c n e hs ht; rw [hh]; exact h.tk s b c n e hs ht
    · exact h.tsep
    · exact h.tinj
    · exact h.nd
    · exact h.ll
    · exact h.tf
    · exact h.gl
  · exact ⟨.refl g, fun _ _ => rfl, Nat.le_refl _, fun _ _ _ _ => rfl, ⟨hos, htp, hou, by rw [hh]; exact Nat.le_refl _, fun b _ _ => by rw [hh]⟩, fun _ _ ho => ho⟩
end Go.Proofs.YtjleeecaebgblaaGreatDoor.AL
