/- What the operators come to. -/
import Derived.Test.YtjleeecaebgblaaGreatDoorA3
set_option linter.all false
namespace Go.Proofs.YtjleeecaebgblaaGreatDoor.AL
open Go.RowKit
/-- What an operation asks, and what it gives. -/
structure Rs where
  ok : Prop
  v : AVal
def Rs.of : Option AVal → Rs
  | some v => ⟨True, v⟩
  | none => ⟨False, .any⟩
theorem Rs.of_ok {o : Option AVal} (h : (Rs.of o).ok) : o = some (Rs.of o).v := by
  cases o with
  | none => exact h.elim
  | some v => rfl
/-- A value within a guard p. -/
def guardV (p : Bool) : AVal → AVal
  | .opt b v => bif (!p || b) then v else .any
  | v => v
theorem VR_guardV {g : Gh} {p : Bool} (hp : p = true) {a : AVal} {cv : Value} (h : VR g a cv) : VR g (guardV p a) cv := by
  subst hp
  cases a <;> simp only [guardV] <;> try exact h
  rename_i b v
  cases b
  · simp [VR]
  · unfold VR at h
    exact h.1 rfl
def stripA (p : Bool) (A : ATmps) : ATmps := fun t => guardV p (A t)
theorem TR.strip {N : Nat} {g : Gh} {A : ATmps} {a : Act} (h : TR N g A a) {p : Bool} (hp : p = true) : TR N g (stripA p A) a := ⟨h.size, fun t => VR_guardV hp (h.val t)⟩
/-! ### types, resolved -/
def tyR (P : Program) (t : TypeId) : Option (Option Nat) := (tyAgg P t).map fun b => if b then some (P.cellsOf t) else none
theorem tyR_spec {P : Program} {t : TypeId} {k : Option Nat} (h : tyR P t = some k) : (k = some (P.cellsOf t) ∧ tyAgg P t = some true) ∨ (k = none ∧ tyAgg P t = some false) := by
  unfold tyR at h
  cases ha : tyAgg P t with
  | none => simp [ha] at h
  | some b =>
    simp only [ha, Option.map_some, Option.some.injEq] at h
    cases b
    · right; exact ⟨by simpa using h.symm, rfl⟩
    · left; exact ⟨by simpa using h.symm, rfl⟩
def partR (k : Option Nat) (cs : List AVal) (off : Nat) : Rs :=
  match k with
  | some n => ⟨True, .agg ((cs.drop off).take n)⟩
  | none => ⟨off < cs.length, cs.getD off .any⟩
theorem partR_ok {P : Program} {t : TypeId} {k : Option Nat} (hk : tyR P t = some k) {cs : List AVal} {off : Nat} (h : (partR k cs off).ok) : aPart P t cs off = some (partR k cs off).v := by
  rcases tyR_spec hk with ⟨rfl, ha⟩ | ⟨rfl, ha⟩
  · simp [aPart, ha, partR]
  · simp only [partR] at h
    simp [aPart, ha, partR, List.getD_eq_getElem?_getD, h]
/-- Where a pointer leads. -/
structure Ds where
  ok : Prop
  cs : List AVal
def derefS (μ : AMem) : AVal → Ds
  | .ptr id off => match μ.blks[id]? with
    | some (.cells _ cs) => ⟨off < cs.length, cs.drop off⟩
    | some (.row _ cs) => ⟨off < cs.length, cs.drop off⟩
    | _ => ⟨False, []⟩
  | .ep cs => ⟨True, cs⟩
  | .glob b off => match μ.gl b with
    | some cs => ⟨off < cs.length, cs.drop off⟩
    | none => ⟨False, []⟩
  | _ => ⟨False, []⟩
theorem derefS_ok {μ : AMem} {x : AVal} (h : (derefS μ x).ok) : deref μ x = some (derefS μ x).cs := by
  cases x <;> simp only [derefS] at h ⊢ <;> try exact h.elim
  · rename_i id off
    simp only [deref]
    cases hb : μ.blks[id]? with
    | none => simp [hb] at h
    | some b =>
      cases b <;> simp only [hb] at h ⊢ <;> first | exact h.elim | rw [if_pos h]
  · rfl
  · rename_i b off
    simp only [deref]
    cases hb : μ.gl b with
    | none => simp [hb] at h
    | some cs => simp only [hb] at h ⊢; rw [if_pos h]
def loadR (k : Option Nat) (d : Ds) : Rs :=
  match k with
  | some n => ⟨d.ok ∧ n ≤ d.cs.length, .agg (d.cs.take n)⟩
  | none => ⟨d.ok ∧ 0 < d.cs.length, d.cs.getD 0 .any⟩
theorem loadR_ok {P : Program} {t : TypeId} {k : Option Nat} (hk : tyR P t = some k) {μ : AMem} {x : AVal} (h : (loadR k (derefS μ x)).ok) : aload P t μ x = some (loadR k (derefS μ x)).v := by
  rcases tyR_spec hk with ⟨rfl, ha⟩ | ⟨rfl, ha⟩
  · simp only [loadR] at h
    simp [aload, ha, derefS_ok h.1, loadR, h.2]
  · simp only [loadR] at h
    simp only [aload, ha, derefS_ok h.1, loadR]
    rw [List.getD_eq_getElem?_getD, List.getElem?_eq_getElem h.2]; rfl
def shiftR (n : Nat) : AVal → Rs
  | .ptr id off => ⟨True, .ptr id (off + n)⟩
  | .ep cs => ⟨True, .ep (cs.drop n)⟩
  | .glob b off => ⟨True, .glob b (off + n)⟩
  | _ => ⟨False, .any⟩
theorem shiftR_ok {n : Nat} {x : AVal} (h : (shiftR n x).ok) : shiftP n x = some (shiftR n x).v := by
  cases x <;> simp only [shiftR] at h ⊢ <;> first | exact h.elim | rfl
def fieldR (off : Nat) (k : Option Nat) : AVal → Rs
  | .agg cs => partR k cs off
  | _ => ⟨False, .any⟩
def indexAddrR (r : Row) (x i : AVal) : Rs :=
  match r, x, i with
  | .sl _ sz, .sl n cs _, .lit (.int _ i) => ⟨0 ≤ i ∧ i < n, .ep (cs.drop (i.toNat * sz))⟩
  | .sl _ sz, .ms id off n _, .lit (.int _ i) => ⟨0 ≤ i ∧ i < n, .ptr id (off + i.toNat * sz)⟩
  | .arr n _ sz, x, .lit (.int _ i) => ⟨(0 ≤ i ∧ i < n) ∧ (shiftR (i.toNat * sz) x).ok, (shiftR (i.toNat * sz) x).v⟩
  | _, _, _ => ⟨False, .any⟩
theorem indexAddrR_ok {P : Program} {t : TypeId} {r : Row} (hr : rowOf P t = some r) {x i : AVal} (h : (indexAddrR r x i).ok) : aIndexAddr P t x i = some (indexAddrR r x i).v := by
  unfold indexAddrR at h ⊢
  split at h
  · simp only [aIndexAddr, hr]; rw [if_pos h]
  · simp only [aIndexAddr, hr]; rw [if_pos h]
  · simp only [aIndexAddr, hr]; rw [if_pos h.1, shiftR_ok h.2]
  · exact h.elim
def indexR (r : Row) (k : Option Nat) (x i : AVal) : Rs :=
  match r, x, i with
  | .str, .lit (.string s), .lit (.int _ i) => ⟨0 ≤ i ∧ i < s.size, .lit (.int .u8 (bAt s i.toNat).toNat)⟩
  | .arr n _ sz, .agg cs, .lit (.int _ i) => ⟨(0 ≤ i ∧ i < n) ∧ (partR k cs (i.toNat * sz)).ok, (partR k cs (i.toNat * sz)).v⟩
  | _, _, _ => ⟨False, .any⟩
def rowElem : Row → TypeId
  | .sl e _ | .arr _ e _ => e
  | .str => 0
theorem indexR_ok {P : Program} {t : TypeId} {r : Row} {k : Option Nat} (hr : rowOf P t = some r) (hk : r = .str ∨ tyR P (rowElem r) = some k) {x i : AVal} (h : (indexR r k x i).ok) : aIndex P t x i = some (indexR r k x i).v := by
  unfold indexR at h ⊢
  split at h
  · simp only [aIndex, hr]; rw [if_pos h]
  · simp only [aIndex, hr]; rw [if_pos h.1]
    exact partR_ok (hk.resolve_left (by simp)) h.2
  · exact h.elim
/-! ### arithmetic -/
structure Rv where
  ok : Prop
  v : Value
def intBinR (op : BinOp) (k : IntKind) (a b : Int) : Rv :=
  match op with
  | .add => ⟨True, .int k (k.wrap (a + b))⟩
  | .sub => ⟨True, .int k (k.wrap (a - b))⟩
  | .mul => ⟨True, .int k (k.wrap (a * b))⟩
  | .quo => ⟨b ≠ 0, .int k (k.wrap (a.tdiv b))⟩
  | .rem => ⟨b ≠ 0, .int k (a.tmod b)⟩
  | .and => ⟨True, .int k (k.wrap (BitVec.ofInt k.bits a &&& BitVec.ofInt k.bits b).toNat)⟩
  | .or => ⟨True, .int k (k.wrap (BitVec.ofInt k.bits a ||| BitVec.ofInt k.bits b).toNat)⟩
  | .xor => ⟨True, .int k (k.wrap (BitVec.ofInt k.bits a ^^^ BitVec.ofInt k.bits b).toNat)⟩
  | .andNot => ⟨True, .int k (k.wrap (BitVec.ofInt k.bits a &&& ~~~ BitVec.ofInt k.bits b).toNat)⟩
  | .eql => ⟨True, .bool (decide (a = b))⟩
  | .neq => ⟨True, .bool (!decide (a = b))⟩
  | .lss => ⟨True, .bool (decide (a < b))⟩
  | .leq => ⟨True, .bool (decide (a ≤ b))⟩
  | .gtr => ⟨True, .bool (decide (b < a))⟩
  | .geq => ⟨True, .bool (decide (b ≤ a))⟩
  | _ => ⟨False, undef⟩
theorem intBinR_ok {op : BinOp} {k : IntKind} {a b : Int} (h : (intBinR op k a b).ok) : intBin op k a b = some (intBinR op k a b).v := by
  cases op <;> simp only [intBinR] at h <;> first
    | rfl
    | exact h.elim
    | (simp only [intBin, intBinR]; rw [if_neg h])
def intShiftR (op : BinOp) (k : IntKind) (a b : Int) : Rv :=
  match op with
  | .shl => ⟨0 ≤ b, .int k (k.wrap (a * 2 ^ (min b.toNat k.bits)))⟩
  | .shr => ⟨0 ≤ b, .int k (a.fdiv (2 ^ (min b.toNat k.bits)))⟩
  | _ => ⟨False, undef⟩
theorem intShiftR_ok {op : BinOp} {k : IntKind} {a b : Int} (h : (intShiftR op k a b).ok) : intShift op k a b = some (intShiftR op k a b).v := by
  cases op <;> simp only [intShiftR] at h <;> first
    | exact h.elim
    | (simp only [intShift, intShiftR]; rw [if_neg (by omega)])
def strBinR (op : BinOp) (a b : ByteArray) : Rv :=
  match op with
  | .add => ⟨a.size + b.size ≤ 9223372036854775807, .string (a ++ b)⟩
  | .eql => ⟨True, .bool (decide (a = b))⟩
  | .neq => ⟨True, .bool (!decide (a = b))⟩
  | .lss => ⟨True, .bool (Op.bytesLess a.data.toList b.data.toList)⟩
  | .geq => ⟨True, .bool (!Op.bytesLess a.data.toList b.data.toList)⟩
  | _ => ⟨False, undef⟩
theorem strBinR_ok {op : BinOp} {a b : ByteArray} (h : (strBinR op a b).ok) : strBin op a b = some (strBinR op a b).v := by
  cases op <;> simp only [strBinR] at h <;> first
    | rfl
    | exact h.elim
    | (simp only [strBin, strBinR]; rw [if_pos h])
/-- What may be compared by '==' at a type that is no number or string. -/
inductive EqK where
  | bool
  | agg (l : List (Nat × Sc))
  | ifc
  | ptr
  | no
def eqK (P : Program) (t : TypeId) : EqK :=
  match P.underlying t with
  | some .bool => .bool
  | some (.interface _) => .ifc
  | some (.pointer _) => .ptr
  | some (.struct _) => match eqStruct P t with
    | some l => .agg l
    | none => .no
  | _ => .no
structure Rb where
  ok : Prop
  b : Bool
def scEqR : Sc → AVal → AVal → Rb
  | .bool, .lit (.bool a), .lit (.bool b) => ⟨True, a == b⟩
  | .int, .lit (.int k a), .lit (.int k' b) => ⟨k = k', decide (a = b)⟩
  | .str, .lit (.string a), .lit (.string b) => ⟨True, decide (a = b)⟩
  | _, _, _ => ⟨False, false⟩
theorem scEqR_ok {s : Sc} {x y : AVal} (h : (scEqR s x y).ok) : scEq s x y = some (scEqR s x y).b := by
  unfold scEqR at h ⊢
  split at h
  · rfl
  · simp only [scEq]; rw [if_pos h]
  · rfl
  · exact h.elim
def eqFieldsR : List (Nat × Sc) → List AVal → List AVal → Rb
  | [], _, _ => ⟨True, true⟩
  | (o, s) :: l, xs, ys => ⟨(o < xs.length ∧ o < ys.length) ∧ (scEqR s (xs.getD o .any) (ys.getD o .any)).ok ∧ (eqFieldsR l xs ys).ok, (scEqR s (xs.getD o .any) (ys.getD o .any)).b && (eqFieldsR l xs ys).b⟩
theorem eqFieldsR_ok : ∀ {l : List (Nat × Sc)} {xs ys : List AVal}, (eqFieldsR l xs ys).ok → aEqFields l xs ys = some (eqFieldsR l xs ys).b
  | [], _, _, _ => rfl
  | (o, s) :: l, xs, ys, h => by
    simp only [eqFieldsR] at h ⊢
    obtain ⟨⟨h1, h2⟩, h3, h4⟩ := h
    rw [List.getD_eq_getElem?_getD, List.getD_eq_getElem?_getD, List.getElem?_eq_getElem h1, List.getElem?_eq_getElem h2] at h3 ⊢
    simp only [aEqFields, List.getElem?_eq_getElem h1, List.getElem?_eq_getElem h2, Option.getD_some] at h3 ⊢
    rw [scEqR_ok h3, eqFieldsR_ok h4]
def eqlR (e : EqK) (cst : Bool) (x y : AVal) : Rb :=
  match e, x, y with
  | .bool, .lit (.bool a), .lit (.bool b) => ⟨True, a == b⟩
  | .agg l, .agg cs, .agg ds => eqFieldsR l cs ds
  | .ifc, .ifc _ _, .lit .nilIface => ⟨True, false⟩
  | .ifc, .lit .nilIface, .lit .nilIface => ⟨cst = true, true⟩
  | .ptr, .ptr _ _, .lit (.pointer none) => ⟨True, false⟩
  | .ptr, .lit (.pointer none), .lit (.pointer none) => ⟨True, true⟩
  | _, _, _ => ⟨False, false⟩
theorem eqlR_ok {P : Program} {t : TypeId} {cst : Bool} {x y : AVal} (h : (eqlR (eqK P t) cst x y).ok) : aEql P t cst x y = some (eqlR (eqK P t) cst x y).b := by
  generalize hk : eqK P t = e at h ⊢
  unfold eqK at hk
  unfold eqlR at h ⊢
  split at h
  · split at hk <;> try (cases hk; done)
    · rename_i hu; simp only [aEql, hu]
    · split at hk <;> cases hk
  · split at hk <;> try (cases hk; done)
    split at hk <;> cases hk
    rename_i he
    simp only [aEql, he]
    exact eqFieldsR_ok h
  · split at hk <;> try (cases hk; done)
    · rename_i hu; simp only [aEql, hu]
    · split at hk <;> cases hk
  · split at hk <;> try (cases hk; done)
    · rename_i hu; simp only [aEql, hu]; rw [if_pos h]
    · split at hk <;> cases hk
  · split at hk <;> try (cases hk; done)
    · rename_i hu; simp only [aEql, hu]
    · split at hk <;> cases hk
  · split at hk <;> try (cases hk; done)
    · rename_i hu; simp only [aEql, hu]
    · split at hk <;> cases hk
  · exact h.elim
def binR (op : BinOp) (e : EqK) (cst : Bool) (x y : AVal) : Rs :=
  match x, y with
  | .lit (.int k a), .lit (.int k' b) => match op with
    | .shl | .shr => ⟨(intShiftR op k a b).ok, .lit (intShiftR op k a b).v⟩
    | _ => ⟨k = k' ∧ (intBinR op k a b).ok, .lit (intBinR op k a b).v⟩
  | .lit (.string a), .lit (.string b) => ⟨(strBinR op a b).ok, .lit (strBinR op a b).v⟩
  | x, y => match op with
    | .eql => ⟨(eqlR e cst x y).ok, .lit (.bool (eqlR e cst x y).b)⟩
    | .neq => ⟨(eqlR e cst x y).ok, .lit (.bool !(eqlR e cst x y).b)⟩
    | _ => ⟨False, .any⟩
theorem binR_ok {P : Program} {op : BinOp} {t : TypeId} {cst : Bool} {x y : AVal} (h : (binR op (eqK P t) cst x y).ok) : aBin P op t cst x y = some (binR op (eqK P t) cst x y).v := by
  unfold binR at h ⊢
  split at h
  · rename_i k a k' b
    split at h
    · simp only [aBin, intShiftR_ok h, Option.map_some]
    · simp only [aBin, intShiftR_ok h, Option.map_some]
    · rename_i h1 h2
      have : aBin P op t cst (.lit (.int k a)) (.lit (.int k' b)) = if k = k' then (intBin op k a b).map .lit else none := by
        cases op <;> first | rfl | exact absurd rfl h1 | exact absurd rfl h2
      rw [this, if_pos h.1, intBinR_ok h.2]
      rfl
  · rename_i a b
    have : aBin P op t cst (.lit (.string a)) (.lit (.string b)) = (strBin op a b).map .lit := by
      cases op <;> rfl
    rw [this, strBinR_ok h]; rfl
  · rename_i h1 h2
    split at h
    · have : aBin P .eql t cst x y = (aEql P t cst x y).map fun b => .lit (.bool b) := by
        unfold aBin; split <;> first | rfl | (simp_all; done) | exact absurd rfl (h1 _ _ _ _ rfl rfl rfl) | (simp_all; exact absurd rfl (h1 _ _ _ _ rfl rfl rfl))
      rw [this, eqlR_ok h]; rfl
    · have : aBin P .neq t cst x y = (aEql P t cst x y).map fun b => .lit (.bool !b) := by
        unfold aBin; split <;> first | rfl | (simp_all; done) | exact absurd rfl (h1 _ _ _ _ rfl rfl rfl) | (simp_all; exact absurd rfl (h1 _ _ _ _ rfl rfl rfl))
      rw [this, eqlR_ok h]; rfl
    · exact h.elim
end Go.Proofs.YtjleeecaebgblaaGreatDoor.AL
namespace Go.Proofs.YtjleeecaebgblaaGreatDoor.AL
open Go.RowKit
inductive CK where
  | int (k : IntKind)
  | str
  | bstr
  | tob (e : TypeId)
  | no
def convK (P : Program) (s t : TypeId) : CK :=
  match P.underlying s, P.underlying t with
  | some .string, some (.slice e) => match P.underlying e with
    | some (.int .u8) => .tob e
    | _ => .no
  | some _, some (.int k) => .int k
  | some (.slice e), some .string => match P.underlying e with
    | some (.int .u8) => .bstr
    | _ => .no
  | some _, some .string => .str
  | _, _ => .no
def convR (c : CK) (x : AVal) : Rs :=
  match c, x with
  | .int k, .lit (.int _ n) => ⟨True, .lit (.int k (k.wrap n))⟩
  | .str, .lit (.int _ n) => ⟨True, .lit (.string (Utf8.encode n))⟩
  | .str, .lit (.string s) => ⟨True, .lit (.string s)⟩
  | .bstr, .sl n cs _ => ⟨cs.length = n ∧ (bytesOf? cs).isSome = true, .lit (.string ⟨⟨(bytesOf? cs).getD []⟩⟩)⟩
  | _, _ => ⟨False, .any⟩
theorem convR_ok {P : Program} {s t : TypeId} {x : AVal} (h : (convR (convK P s t) x).ok) : aConv P s t x = some (convR (convK P s t) x).v := by
  generalize hk : convK P s t = c at h ⊢
  unfold convK at hk
  unfold convR at h ⊢
  split at h
  · split at hk <;> try (cases hk; done)
    · split at hk <;> cases hk
    · cases hk; rename_i h1 h2; simp [aConv, h1, h2]
    · split at hk <;> cases hk
  · split at hk <;> try (cases hk; done)
    · split at hk <;> cases hk
    · split at hk <;> cases hk
    · rename_i h1 h2 h3; simp [aConv, h2, h3]
  · split at hk <;> try (cases hk; done)
    · split at hk <;> cases hk
    · split at hk <;> cases hk
    · rename_i h1 h2 h3; simp [aConv, h2, h3]
  · split at hk <;> try (cases hk; done)
    · split at hk <;> cases hk
    · split at hk <;> cases hk
      rename_i h1 h2 _ h3
      obtain ⟨hl, hb⟩ := h
      obtain ⟨l, hb⟩ := Option.isSome_iff_exists.1 hb
      simp [aConv, h1, h2, h3, hl, hb]
  · exact h.elim
structure Rn where
  ok : Prop
  n : Nat
def bndR (A : ATmps) (o : Option Operand) (d : Nat) : Rn :=
  match o with
  | none => ⟨True, d⟩
  | some x => match aeval A x with
    | .lit (.int _ i) => ⟨0 ≤ i, i.toNat⟩
    | _ => ⟨False, 0⟩
theorem bndR_ok {A : ATmps} {o : Option Operand} {d : Nat} (h : (bndR A o d).ok) : bnd A o d = some (bndR A o d).n := by
  unfold bndR at h ⊢
  unfold bnd
  split at h
  · rfl
  · split at h
    · rename_i he
      simp only [he]
      exact if_pos h
    · exact h.elim
def sliceR (r : Row) (A : ATmps) (x : AVal) (lo hi mx : Option Operand) : Rs :=
  match r, x, mx with
  | .str, .lit (.string s), none => ⟨((bndR A lo 0).ok ∧ (bndR A hi s.size).ok) ∧ (bndR A lo 0).n ≤ (bndR A hi s.size).n ∧ (bndR A hi s.size).n ≤ s.size, .lit (.string (s.extract (bndR A lo 0).n (bndR A hi s.size).n))⟩
  | .sl _ sz, .sl n cs tk, none => ⟨((bndR A lo 0).ok ∧ (bndR A hi n).ok) ∧ (bndR A lo 0).n ≤ (bndR A hi n).n ∧ (bndR A hi n).n ≤ n,
      .sl ((bndR A hi n).n - (bndR A lo 0).n) ((cs.drop ((bndR A lo 0).n * sz)).take (((bndR A hi n).n - (bndR A lo 0).n) * sz)) (match tk with | .full => if (bndR A hi n).n = n then .full else .no | _ => .no)⟩
  | .sl _ sz, .sl n cs tk, some m => ⟨((bndR A lo 0).ok ∧ (bndR A hi n).ok ∧ (bndR A (some m) 0).ok) ∧ (bndR A lo 0).n ≤ (bndR A hi n).n ∧ (bndR A hi n).n ≤ (bndR A (some m) 0).n ∧ (bndR A (some m) 0).n ≤ n ∧ hi.isSome = true,
      .sl ((bndR A hi n).n - (bndR A lo 0).n) ((cs.drop ((bndR A lo 0).n * sz)).take (((bndR A hi n).n - (bndR A lo 0).n) * sz)) (if (bndR A (some m) 0).n = (bndR A hi n).n then .full else .no)⟩
  | .sl _ sz, .ms id off n tk, none => ⟨((bndR A lo 0).ok ∧ (bndR A hi n).ok) ∧ (bndR A lo 0).n ≤ (bndR A hi n).n ∧ (bndR A hi n).n ≤ n,
      if (bndR A lo 0).n = (bndR A hi n).n then .sl 0 [] .no else .ms id (off + (bndR A lo 0).n * sz) ((bndR A hi n).n - (bndR A lo 0).n) (cutTk (decide ((bndR A hi n).n = n)) tk)⟩
  | .sl _ sz, .ms id off n tk, some m => ⟨((bndR A lo 0).ok ∧ (bndR A hi n).ok ∧ (bndR A (some m) 0).ok) ∧ (bndR A lo 0).n ≤ (bndR A hi n).n ∧ (bndR A hi n).n ≤ (bndR A (some m) 0).n ∧ (bndR A (some m) 0).n ≤ n ∧ hi.isSome = true,
      if (bndR A lo 0).n = (bndR A hi n).n then .sl 0 [] (if (bndR A (some m) 0).n = (bndR A hi n).n then .full else .no) else .ms id (off + (bndR A lo 0).n * sz) ((bndR A hi n).n - (bndR A lo 0).n) (if (bndR A (some m) 0).n = (bndR A hi n).n then .full else .no)⟩
  | .arr n _ sz, .ptr id off, none => ⟨((bndR A lo 0).ok ∧ (bndR A hi n).ok) ∧ (bndR A lo 0).n < (bndR A hi n).n ∧ (bndR A hi n).n ≤ n, .ms id (off + (bndR A lo 0).n * sz) ((bndR A hi n).n - (bndR A lo 0).n) .no⟩
  | _, _, _ => ⟨False, .any⟩
theorem sliceR_ok {P : Program} {t : TypeId} {r : Row} (hr : rowOf P t = some r) {A : ATmps} {x : AVal} {lo hi mx : Option Operand} (h : (sliceR r A x lo hi mx).ok) : aSlice P t A x lo hi mx = some (sliceR r A x lo hi mx).v := by
  unfold sliceR at h ⊢
  split at h
  · obtain ⟨⟨h1, h2⟩, h3, h4⟩ := h
    simp only [aSlice, hr, bndR_ok h1, bndR_ok h2]; rw [if_pos ⟨h3, h4⟩]
  · obtain ⟨⟨h1, h2⟩, h3, h4⟩ := h
    simp only [aSlice, hr, bndR_ok h1, bndR_ok h2]; rw [if_pos ⟨h3, h4⟩]; rfl
  · obtain ⟨⟨h1, h2, h5⟩, h3, h4, h6, h7⟩ := h
    simp only [aSlice, hr, bndR_ok h1, bndR_ok h2, bndR_ok h5]; rw [if_pos ⟨h3, h4, h6, h7⟩]
  · obtain ⟨⟨h1, h2⟩, h3, h4⟩ := h
    simp only [aSlice, hr, bndR_ok h1, bndR_ok h2]; rw [if_pos ⟨h3, h4⟩]
  · obtain ⟨⟨h1, h2, h5⟩, h3, h4, h6, h7⟩ := h
    simp only [aSlice, hr, bndR_ok h1, bndR_ok h2, bndR_ok h5]; rw [if_pos ⟨h3, h4, h6, h7⟩]
  · obtain ⟨⟨h1, h2⟩, h3, h4⟩ := h
    simp only [aSlice, hr, bndR_ok h1, bndR_ok h2]; rw [if_pos ⟨h3, h4⟩]
  · exact h.elim
def extractR (x : AVal) (i : Nat) : Rs :=
  match x with
  | .tup cs => ⟨i < cs.length, cs.getD i .any⟩
  | _ => ⟨False, .any⟩
theorem extractR_ok {x : AVal} {i : Nat} (h : (extractR x i).ok) : aExtract x i = some (extractR x i).v := by
  unfold extractR at h ⊢
  split at h
  · have h' : i < _ := h
    simp [aExtract, h', List.getD_eq_getElem?_getD]
  · exact h.elim
structure Ro where
  ok : Prop
  o : Option AVal
def mgetR (μ : AMem) (kk : KeyK) (k : Value) : AVal → Ro
  | .mp id => match μ.blks[id]? with
    | some (.map kk' es) => ⟨kk' = kk, mfind k es⟩
    | _ => ⟨False, none⟩
  | .lit (.map none) => ⟨True, none⟩
  | _ => ⟨False, none⟩
theorem mgetR_ok {μ : AMem} {kk : KeyK} {k : Value} {x : AVal} (h : (mgetR μ kk k x).ok) : mget μ kk k x = some (mgetR μ kk k x).o := by
  unfold mgetR at h ⊢
  split at h
  · split at h
    · rename_i hb
      simp only [mget, hb]; exact if_pos h
    · exact h.elim
  · rfl
  · exact h.elim
def lookR (z : AVal) (ok : Bool) : Option AVal → AVal
  | some v => if ok then .tup [v, .lit (.bool true)] else v
  | none => if ok then .tup [z, .lit (.bool false)] else z
def lookupR (kk : KeyK) (z : AVal) (μ : AMem) (x k : AVal) (ok : Bool) : Rs :=
  match k with
  | .lit k => ⟨keyFit kk k = true ∧ (mgetR μ kk k x).ok, lookR z ok (mgetR μ kk k x).o⟩
  | _ => ⟨False, .any⟩
theorem lookupR_ok {P : Program} {t kt et : TypeId} {kk : KeyK} (hm : mapInfo P t = some (kt, kk, et)) {z : AVal} (hz : zeroA P et = some z) {μ : AMem} {x k : AVal} {ok : Bool} (h : (lookupR kk z μ x k ok).ok) :
    aLookup P t μ x k ok = some (lookupR kk z μ x k ok).v := by
  unfold lookupR at h ⊢
  split at h
  · obtain ⟨h1, h2⟩ := h
    simp only [aLookup, hm, h1, if_true, mgetR_ok h2, hz]
    cases (mgetR μ kk ‹Value› x).o <;> rfl
  · exact h.elim
def assertR (z : AVal) (t : TypeId) (ok : Bool) (x : AVal) : Rs :=
  match x, ok with
  | .ifc u v, true => ⟨True, if u = t then .tup [v, .lit (.bool true)] else .tup [z, .lit (.bool false)]⟩
  | .ifc u v, false => ⟨u = t, v⟩
  | .lit .nilIface, true => ⟨True, .tup [z, .lit (.bool false)]⟩
  | _, _ => ⟨False, .any⟩
theorem assertR_ok {P : Program} {t : TypeId} {z : AVal} (hi : isIface P t = some false) (hz : zeroA P t = some z) {x : AVal} {ok : Bool} (h : (assertR z t ok x).ok) : aAssert P x t ok = some (assertR z t ok x).v := by
  unfold assertR at h ⊢
  split at h
  · simp only [aAssert, hi, hz]; split <;> rfl
  · simp only [aAssert, hi]; exact if_pos h
  · simp only [aAssert, hi, hz]
  · exact h.elim
def lenR (l : LenK) (μ : AMem) (x : AVal) : Rs :=
  match l, x with
  | .arr n, _ => ⟨True, .lit (.int .i64 n)⟩
  | .sl, .sl n _ _ => ⟨True, .lit (.int .i64 n)⟩
  | .sl, .ms _ _ n _ => ⟨True, .lit (.int .i64 n)⟩
  | .str, .lit (.string s) => ⟨True, .lit (.int .i64 s.size)⟩
  | .map, .mp id => match μ.blks[id]? with
    | some (.map _ es) => ⟨True, .lit (.int .i64 es.length)⟩
    | _ => ⟨False, .any⟩
  | .map, .lit (.map none) => ⟨True, .lit (.int .i64 0)⟩
  | _, _ => ⟨False, .any⟩
theorem lenR_ok {P : Program} {t : TypeId} {l : LenK} (hl : lenK P t = some l) {μ : AMem} {x : AVal} (h : (lenR l μ x).ok) : aLen P t μ x = some (lenR l μ x).v := by
  unfold lenR at h ⊢
  split at h
  · simp only [aLen, hl]
  · simp only [aLen, hl]
  · simp only [aLen, hl]
  · simp only [aLen, hl]
  · split at h
    · rename_i hb; simp only [aLen, hl, hb]
    · exact h.elim
  · simp only [aLen, hl]
  · exact h.elim
def unR (op : UnOp) (x : AVal) : Rs :=
  match op, x with
  | .neg, .lit (.int k n) => ⟨True, .lit (.int k (k.wrap (0 - n)))⟩
  | .xor, .lit (.int k n) => ⟨True, .lit (.int k (k.wrap (BitVec.ofInt k.bits (if k.signed then -1 else k.max) ^^^ BitVec.ofInt k.bits n).toNat))⟩
  | .not, .lit (.bool b) => ⟨True, .lit (.bool !b)⟩
  | _, _ => ⟨False, .any⟩
theorem unR_ok {op : UnOp} {x : AVal} (h : (unR op x).ok) : aUn op x = some (unR op x).v := by
  unfold unR at h ⊢
  split at h <;> first | rfl | exact h.elim
/-- 'c ? a : b' of truth values, where one of a, b need only be there where it is taken. -/
def pickR (c a b : AVal) : Rs :=
  match c with
  | .lit (.bool c) => match guardV c a, guardV (!c) b with
    | .lit (.bool x), .lit (.bool y) => ⟨True, .lit (.bool (bif c then x else y))⟩
    | .lit (.bool x), _ => ⟨c = true, .lit (.bool x)⟩
    | _, .lit (.bool y) => ⟨c = false, .lit (.bool y)⟩
    | _, _ => ⟨False, .any⟩
  | _ => ⟨False, .any⟩
/-- A pointer that is none of nil. -/
def nilcR (x : AVal) : Rs :=
  match x with
  | .ptr _ _ | .ep _ | .ifc _ _ | .glob _ _ => ⟨True, x⟩
  | .fn (.func _) _ _ => ⟨True, x⟩
  | _ => ⟨False, .any⟩
def foldOk (k : IntKind) : List AVal → Prop
  | [] => True
  | .lit (.int k' _) :: l => k' = k ∧ foldOk k l
  | _ => False
end Go.Proofs.YtjleeecaebgblaaGreatDoor.AL
namespace Go.Proofs.YtjleeecaebgblaaGreatDoor.AL
open Go.RowKit
theorem born_idx {ms : List MapEntry} (ho : ms.Pairwise (fun x y => x.born < y.born)) {j : Nat} {m : MapEntry} (hj : ms[j]? = some m) : ms.findIdx? (fun e => (e.born : Int) == (m.born : Int)) = some j := by
  obtain ⟨hl, hm⟩ := List.getElem?_eq_some_iff.1 hj
  rw [List.findIdx?_eq_some_iff_getElem]
  refine ⟨hl, by rw [hm]; simp, fun i hi => ?_⟩
  have := List.pairwise_iff_getElem.1 ho i j (by omega) hl hi
  rw [hm] at this
  simp
  omega
theorem set_mono {ms : List MapEntry} {j : Nat} {m c : MapEntry} (hj : ms[j]? = some m) (hc : c.born = m.born) (ho : ms.Pairwise (fun x y => x.born < y.born)) : (ms.set j c).Pairwise (fun x y => x.born < y.born) := by
  obtain ⟨hjl, hmj⟩ := List.getElem?_eq_some_iff.1 hj
  have e1 : (ms.set j c).map (·.born) = ms.map (·.born) := by
    apply List.ext_getElem?
    intro i
    by_cases hij : j = i
    · subst hij; simp [hj, hjl, hmj, hc]
    · simp [List.getElem?_set_ne hij]
  have := List.pairwise_map.2 ho
  rw [← e1] at this
  exact List.pairwise_map.1 this
theorem MR.key {g : Gh} : ∀ (es : List (Value × AVal)) (ms : List MapEntry) (j : Nat) (m : MapEntry), MR g es ms → ms[j]? = some m → ∃ e ∈ es, m.key = e.1
  | [], ms, j, m, h, hj => by simp only [MR] at h; subst h; simp at hj
  | e :: es, ms, j, m, h, hj => by
    simp only [MR] at h
    obtain ⟨m0, ms', rfl, h1, _, h⟩ := h
    cases j with
    | zero => simp at hj; subst hj; exact ⟨e, by simp, h1⟩
    | succ j => simp at hj; obtain ⟨e', he', hk'⟩ := MR.key es ms' j m h hj; exact ⟨e', by simp [he'], hk'⟩
theorem keyEq_refl {kk : KeyK} {k : Value} (h : keyFit kk k = true) : keyEq k k = true := by
  cases kk <;> cases k <;> simp only [keyFit] at h <;> first | (cases h; done) | simp [keyEq]
theorem mput_mput {k : Value} (hk : keyEq k k = true) (v v' : AVal) : ∀ (es : List (Value × AVal)), mput k v (mput k v' es) = mput k v es
  | [] => by simp [mput, hk]
  | e :: es => by
    by_cases h : keyEq k e.1 = true
    · simp [mput, h, hk]
    · simp only [Bool.not_eq_true] at h
      simp [mput, h, mput_mput hk v v' es]
variable {P : Program} {g : Gh} {w : World} {μ : AMem}
theorem run_mapEntry (hs : Sim P g w μ) {t kt et : TypeId} {kk : KeyK} {z : AVal} (hm : mapInfo P t = some (kt, kk, et)) (hz : zeroA P et = some z) {id b : Nat} {k : Value} {es : List (Value × AVal)} (hes : μ.blks[id]? = some (.map kk es)) (hfit : keyFit kk k = true) (hb : g.φ id = some b) :
    ∃ cv w' g', (Instr.mapEntry t (.map (some b)) k).run P w = .ok cv w' ∧ VR g' (.tup [(mfind k es).getD z, .stp μ.nx]) cv ∧ Sim P g' w' { μ with blks := μ.blks.set id (.mapP kk (mput k ((mfind k es).getD z) es) k μ.nx), nx := μ.nx + 1 } ∧
      St g w μ g' w' { μ with blks := μ.blks.set id (.mapP kk (mput k ((mfind k es).getD z) es) k μ.nx), nx := μ.nx + 1 } := by
  obtain ⟨hu, hku⟩ := mapInfo_spec hm
  have hbr := hs.blk id b _ hb hes
  simp only [BR] at hbr
  obtain ⟨ms, clk, hh, hmr, hf, hborn, hord⟩ := hbr
  have hck := fun em => run_checkKey (P := P) hku em 9999 k w
  have hblt : b < w.heap.size := (Array.getElem?_eq_some_iff.1 hh).1
  have hT0 : g.T μ.nx = none := hs.tf _ (Nat.le_refl _)
  have fin : ∀ (ms' : List MapEntry) (clk' born : Nat) (cv cv0 : Value), cv = .tuple #[cv0, .int .i64 (born : Nat)] → VR g ((mfind k es).getD z) cv0 → MR g (mput k ((mfind k es).getD z) es) ms' → (∀ m ∈ ms', m.born < clk') → ms'.Pairwise (fun x y => x.born < y.born) →
      (∃ j m, ms'[j]? = some m ∧ m.born = born ∧ m.key = k ∧ ∀ v, mput k v (mput k ((mfind k es).getD z) es) = (mput k ((mfind k es).getD z) es).set j (k, v)) →
      (Instr.mapEntry t (.map (some b)) k).run P w = .ok cv { w with heap := w.heap.setIfInBounds b (.map ⟨ms'⟩ clk') } →
      ∃ cv w' g', (Instr.mapEntry t (.map (some b)) k).run P w = .ok cv w' ∧ VR g' (.tup [(mfind k es).getD z, .stp μ.nx]) cv ∧ Sim P g' w' { μ with blks := μ.blks.set id (.mapP kk (mput k ((mfind k es).getD z) es) k μ.nx), nx := μ.nx + 1 } ∧
        St g w μ g' w' { μ with blks := μ.blks.set id (.mapP kk (mput k ((mfind k es).getD z) es) k μ.nx), nx := μ.nx + 1 } := by
    intro ms' clk' born cv cv0 hcv hv0 hm' hb' ho' hj hrun
    obtain ⟨hs1, hst1⟩ := Sim.note hs (b := b) born hblt
    have hle := hst1.le
    have hw := Sim.write (k' := .mapP kk (mput k ((mfind k es).getD z) es) k μ.nx) hs1 (w' := { w with heap := w.heap.setIfInBounds b (.map ⟨ms'⟩ clk') }) hb hes rfl rfl rfl rfl (by simp) (fun c hc => by simp [Array.getElem?_setIfInBounds_ne (Ne.symm hc)]) (by
      simp only [BR]
      obtain ⟨j, m, j1, j2, j3, j4⟩ := hj
      exact ⟨ms', clk', by simp [hblt], MR.mono hle _ _ hm', mput_keys hfit es hf, hb', ho', hfit, born, 0, 0, j, m, by simp [Gh.note], j1, j2, j3, j4⟩)
    refine ⟨cv, _, _, hrun, ?_, hw.1, hst1.trans hw.2⟩
    rw [hcv]
    exact VR_pair (VR.mono hle _ _ hv0) (by simp only [VR]; exact ⟨b, born, 0, 0, by simp [Gh.note], rfl⟩)
  rcases findNow_spec hfit es ms 0 hmr hf with ⟨h1, h2, h3⟩ | ⟨j, v', m, h1, h2, h4, h5, h6, h7⟩
  · have hnone : mfind k es = none := h1
    obtain ⟨c0, hc0, r0⟩ := run_zero hz g
    have hput : mput k z es = es ++ [(k, z)] := mput_mfind es hnone
    refine fin (ms ++ [{ key := k, val := c0, born := clk }]) (clk + 1) clk _ c0 rfl (by rw [hnone]; exact r0) (by rw [hnone]; simp only [Option.getD_none]; rw [hput]; exact MR.snoc (c := { key := k, val := c0, born := clk }) rfl r0 es ms hmr) ?_ ?_ ?_ ?_
    · intro m hm'
      rcases List.mem_append.1 hm' with hm' | hm'
      · have := hborn m hm'; omega
      · simp only [List.mem_singleton] at hm'; subst hm'; simp
    · refine List.pairwise_append.2 ⟨hord, by simp, fun a ha b' hb' => ?_⟩
      simp only [List.mem_singleton] at hb'; subst hb'; exact hborn a ha
    · refine ⟨ms.length, { key := k, val := c0, born := clk }, by simp, rfl, rfl, fun v => ?_⟩
      rw [hnone, mput_mput (keyEq_refl hfit)]; simp only [Option.getD_none]
      rw [hput, h3 v, hmr.length]; simp
    · have hfk := run_findKey (P := P) hku h2 w
      simp [Instr.mapEntry, run_underlying hu, getObj, Sem.run, hh, hck, hfk, setObj, hc0, goInt]
  · rw [Nat.zero_add] at h2
    obtain ⟨hjl, hmj⟩ := List.getElem?_eq_some_iff.1 h4
    have hmk : keyFit kk m.key = true := by
      obtain ⟨e, he, hk'⟩ := MR.key es ms j m hmr h4
      rw [hk']; exact hf e he
    have hsome : mfind k es = some v' := h1
    have hput : mput k v' es = es.set j (k, v') := h7 v'
    have hel : j < es.length := by rw [← hmr.length]; exact hjl
    have hsb := sameBits_of_fit hfit hmk h5
    refine fin (ms.set j { key := k, val := m.val, born := m.born }) clk m.born _ m.val rfl (by rw [hsome]; exact h6) (by rw [hsome]; simp only [Option.getD_some]; rw [hput]; exact MR.set (c := { key := k, val := m.val, born := m.born }) rfl h6 es ms j hmr) ?_ (set_mono h4 rfl hord) ?_ ?_
    · intro x hx
      rcases List.mem_or_eq_of_mem_set hx with hx | rfl
      · exact hborn x hx
      · exact hborn m (List.mem_of_getElem? h4)
    · refine ⟨j, { key := k, val := m.val, born := m.born }, by simp [hjl], rfl, rfl, fun v => ?_⟩
      rw [hsome, mput_mput (keyEq_refl hfit)]; simp only [Option.getD_some]
      rw [hput, h7 v]; simp
    · have hfk := run_findKey (P := P) hku h2 w
      have hmod : ms.modify j (fun e => { e with key := k }) = ms.set j { key := k, val := m.val, born := m.born } := by
        apply List.ext_getElem?
        intro i
        simp only [List.getElem?_modify, List.getElem?_set]
        split
        · rename_i hij; subst hij; simp [h4, hjl, hmj]
        · simp
      simp [Instr.mapEntry, run_underlying hu, getObj, Sem.run, hh, hck, hfk, setObj, Instr.keyThatStays, h4, hsb, hmod, goInt]
theorem run_entryStore (hs : Sim P g w μ) {t : TypeId} {kk : KeyK} {id b s : Nat} {k : Value} {es : List (Value × AVal)} (hes : μ.blks[id]? = some (.mapP kk es k s)) (hb : g.φ id = some b) {v : AVal} {cv cs : Value} (kv : VR g v cv) (ks : VR g (.stp s) cs) :
    ∃ w', (Instr.entryStore t (.map (some b)) cs cv).run P w = .ok () w' ∧ Sim P g w' { μ with blks := μ.blks.set id (.map kk (mput k v es)) } ∧ St g w μ g w' { μ with blks := μ.blks.set id (.map kk (mput k v es)) } := by
  have hbr := hs.blk id b _ hb hes
  simp only [BR] at hbr
  obtain ⟨ms, clk, hh, hmr, hf, hborn, hord, hfit, born, n, ty, j, m, hT, hj, hmb, hmk, hput⟩ := hbr
  simp only [VR] at ks
  obtain ⟨b', born', n', e', hT', rfl⟩ := ks
  rw [hT] at hT'
  cases hT'
  have hblt : b < w.heap.size := (Array.getElem?_eq_some_iff.1 hh).1
  obtain ⟨hjl, hmj⟩ := List.getElem?_eq_some_iff.1 hj
  have hidx := born_idx hord hj
  rw [hmb] at hidx
  have hmod : ms.modify j (fun e => { e with val := cv }) = ms.set j { key := m.key, val := cv, born := m.born } := by
    apply List.ext_getElem?
    intro i
    simp only [List.getElem?_modify, List.getElem?_set]
    split
    · rename_i hij; subst hij; simp [hj, hjl, hmj]
    · simp
  refine ⟨{ w with heap := w.heap.setIfInBounds b (.map ⟨ms.set j { key := m.key, val := cv, born := m.born }⟩ clk) }, ?_, ?_⟩
  · simp [Instr.entryStore, getObj, Sem.run, hh, asInt, asIntOf, hidx, setObj, hmod]
  · refine Sim.write hs hb hes rfl rfl rfl rfl (by simp) (fun c hc => by simp [Array.getElem?_setIfInBounds_ne (Ne.symm hc)]) ?_
    simp only [BR]
    refine ⟨ms.set j { key := m.key, val := cv, born := m.born }, clk, by simp [hblt], ?_, mput_keys hfit es hf, ?_, set_mono hj rfl hord⟩
    · rw [hput v]; exact MR.set (c := { key := m.key, val := cv, born := m.born }) hmk kv es ms j hmr
    · intro x hx
      rcases List.mem_or_eq_of_mem_set hx with hx | rfl
      · exact hborn x hx
      · exact hborn m (List.mem_of_getElem? hj)
/-! ### clear -/
theorem store_row (b off : Nat) (us sp : List Value) (bt : TypeId) (cs vs : List AVal) (cvs : List Value) (hh : w.heap[b]? = some (.cells ⟨us ++ sp⟩ bt (0, 0))) (hr : VRs g cs us) (hlen : off + vs.length ≤ cs.length) (hone : vs.all AVal.one = true) (hv : VRs g vs cvs) :
    ∃ us', (storeCells ⟨b, off, none⟩ cvs).run P w = .ok () (w.setRow b (us' ++ sp).toArray) ∧ VRs g (setAt cs off vs) us' ∧ us'.length = us.length := by
  have hone' := all_one hone hv
  have hsz := hv.length
  have hul := hr.length
  have hst := run_storeCells_at (P := P) b off bt cvs 0 ⟨us ++ sp⟩ w hh (by simp; omega) hone'
  rw [Nat.add_zero] at hst
  refine ⟨us.take off ++ cvs ++ us.drop (off + cvs.length), ?_, ?_, by simp; omega⟩
  · rw [hst]
    congr 3
    have h1 : (us ++ sp).take off = us.take off := List.take_append_of_le_length (by omega)
    have h2 : (us ++ sp).drop (off + cvs.length) = us.drop (off + cvs.length) ++ sp := List.drop_append_of_le_length (by omega)
    simp only [h1, h2, List.append_assoc]
  · unfold setAt
    rw [← hsz]
    exact ((hr.take off).append hv).append (hr.drop _)
theorem run_clear (hs : Sim P g w μ) {t e ty : TypeId} {sz : Nat} (hr : rowOf P t = some (.sl e sz)) {z : AVal} {zs : List AVal} (hz : zeroA P e = some z) (hzs : vcells z = some zs) {id off n : Nat} {tk : Tk} {cv : Value} (kv : VR g (.ms id off n tk) cv) (hn : 0 < n) (hone : (zeros n zs).all AVal.one = true) :
    (∀ bt cs, μ.blks[id]? = some (.cells bt cs) → off + (zeros n zs).length ≤ cs.length → ∃ w', (Builtin.clear_ #[t] ty #[cv]).run P w = .ok (.tuple #[]) w' ∧ Sim P g w' { μ with blks := μ.blks.set id (.cells bt (setAt cs off (zeros n zs))) } ∧ St g w μ g w' { μ with blks := μ.blks.set id (.cells bt (setAt cs off (zeros n zs))) }) ∧
    (∀ bt cs, μ.blks[id]? = some (.row bt cs) → off + (zeros n zs).length ≤ cs.length → ∃ w', (Builtin.clear_ #[t] ty #[cv]).run P w = .ok (.tuple #[]) w' ∧ Sim P g w' { μ with blks := μ.blks.set id (.row bt (setAt cs off (zeros n zs))) } ∧ St g w μ g w' { μ with blks := μ.blks.set id (.row bt (setAt cs off (zeros n zs))) }) := by
  obtain ⟨hu, hsz, inf, hi⟩ := rowOf_sl hr
  obtain ⟨c0, hc0, r0⟩ := run_zero hz g
  have hvc := vcells_spec hzs r0
  have hzz := zeros_spec hvc n
  simp only [VR] at kv
  obtain ⟨b, c, hb, rfl, hnc, _⟩ := kv
  have hzl : zs.length = c0.cells.size := by have := hvc.length; simpa using this.symm
  have hcl : (Builtin.zeroCells c0.cells n).toList = (List.range (n * zs.length)).map (fun i => c0.cells[i % c0.cells.size]!) := by
    simp [Builtin.zeroCells, hzl]
  rw [← hcl] at hzz
  obtain ⟨m, rfl⟩ : ∃ m, n = m + 1 := ⟨n - 1, by omega⟩
  have hrun : ∀ w', (storeCells ⟨b, off, none⟩ (Builtin.zeroCells c0.cells (m + 1)).toList).run P w = .ok () w' → (Builtin.clear_ #[t] ty #[.slice (some ⟨b, off, none⟩) (m + 1) c]).run P w = .ok (.tuple #[]) w' := by
    intro w' h
    simp [Builtin.clear_, run_underlying hu, hc0, h]
  constructor
  · intro bt cs hblk hlen
    have hbr := hs.blk id b _ hb hblk
    simp only [BR] at hbr
    obtain ⟨us, hh, hvr⟩ := hbr
    obtain ⟨us', hst, hvr', _⟩ := store_row (P := P) b off us [] bt cs _ _ (by simpa using hh) hvr hlen hone hzz
    refine ⟨_, hrun _ hst, Sim.write hs hb hblk rfl rfl rfl rfl (by simp) (fun c hcb => setRow_other w b c _ hcb) ?_⟩
    simp only [BR]
    exact ⟨us', by rw [setRow_heap w b ⟨us⟩ _ bt (0, 0) hh]; simp, hvr'⟩
  · intro bt cs hblk hlen
    have hbr := hs.blk id b _ hb hblk
    simp only [BR] at hbr
    obtain ⟨us, sp, q, hh, hvr, hcp, hl⟩ := hbr
    obtain ⟨us', hst, hvr', hl'⟩ := store_row (P := P) b off us sp bt cs _ _ hh hvr hlen hone hzz
    refine ⟨_, hrun _ hst, Sim.write hs hb hblk rfl rfl rfl rfl (by simp) (fun c hcb => setRow_other w b c _ hcb) ?_⟩
    simp only [BR]
    exact ⟨us', sp, q, by rw [setRow_heap w b ⟨us ++ sp⟩ _ bt (0, 0) hh], hvr', hcp, by simp at hl ⊢; omega⟩
end Go.Proofs.YtjleeecaebgblaaGreatDoor.AL
