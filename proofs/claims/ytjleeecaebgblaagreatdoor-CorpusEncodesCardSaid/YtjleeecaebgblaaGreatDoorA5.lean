/- Operations that only read; operations that change memory. -/
import Derived.Test.YtjleeecaebgblaaGreatDoorA4
import Derived.Test.YtjleeecaebgblaaGreatDoorA2
import Derived.Lib.ConvBytes
import Derived.Lib.Bytealg
set_option linter.all false
namespace Go.Proofs.YtjleeecaebgblaaGreatDoor.AL
open Go.RowKit
/-- Functions without a body: internal/bytealg's comparison and count. -/
inductive XK where
  | cmp | cnt
inductive QOp where
  | move (x : Operand)
  | pick (c a b : Operand)
  | load (k : Option Nat) (x : Operand)
  | nilc (x : Operand)
  | bin (op : BinOp) (e : EqK) (x y : Operand)
  | un (op : UnOp) (x : Operand)
  | conv (c : CK) (x : Operand)
  | iface (t : TypeId) (x : Operand)
  | func (f : Fn) (first captured : List Operand)
  | slice (r : Row) (x : Operand) (lo hi mx : Option Operand)
  | faddr (off : Nat) (x : Operand)
  | field (off : Nat) (k : Option Nat) (x : Operand)
  | iaddr (r : Row) (x i : Operand)
  | index (r : Row) (k : Option Nat) (x i : Operand)
  | lookup (kk : KeyK) (z : AVal) (x k : Operand) (ok : Bool)
  | assert (z : AVal) (t : TypeId) (ok : Bool) (x : Operand)
  | extract (x : Operand) (i : Nat)
  | len (l : LenK) (x : Operand)
  | max (xs : List Operand)
  | min (xs : List Operand)
  | build (pl : Places) (z : List AVal) (ps : List (Nat × Operand))
  | bslice (sz n : Nat) (ps : List (Nat × Operand))
  | idx (x c : Operand)
  | ext (k : XK) (x y : Operand)
/-- internal/bytealg.IndexByteString: a function without a body. -/
def idxFn (P : Program) (f : FuncId) : Bool :=
  match P.funcs[f]? with
  | some fn => fn.body.isNone && fn.name == "internal/bytealg.IndexByteString" && fn.origin == ""
  | none => false
theorem idxFn_run {P : Program} {f : FuncId} (h : idxFn P f = true) (s : ByteArray) (c : Int) (w : World) :
    (callFunc f #[.string s, .int .u8 c]).run P w = .ok (.value (.int .i64 (Lib.indexByte s.data.toList c.toNat.toUInt8))) w := by
  unfold idxFn at h
  split at h
  · rename_i fn hf
    simp only [Bool.and_eq_true, beq_iff_eq] at h
    obtain ⟨⟨hb, hn⟩, ho⟩ := h
    have h1 : Extern.findNext fn = none := by
      unfold Extern.findNext
      rw [hn, ho]
      have e1 : Extern.allNextRows.lookup "internal/bytealg.IndexByteString" = none := by kernel_rfl
      have e2 : Extern.allNextRows.lookup "" = none := by kernel_rfl
      simp only [e1, e2]
      rfl
    have h2 : Extern.find fn = some Extern.BytealgIndexByte.indexByte := by
      unfold Extern.find
      rw [hn, ho]
      have e1 : Extern.allGenericRows.lookup "internal/bytealg.IndexByteString" = none := by kernel_rfl
      have e2 : Extern.allTypedRows.lookup "internal/bytealg.IndexByteString" = none := by kernel_rfl
      have e3 : Extern.allRows.lookup "internal/bytealg.IndexByteString" = some Extern.BytealgIndexByte.indexByte := by kernel_rfl
      simp only [e1, e2, e3]
      rfl
    have h3 : (fn.name == "runtime.NumGoroutine") = false := by rw [hn]; decide
    have h4 := Lib.run_indexByteString (P := P) s c w
    unfold callFunc
    simp only [Sem.run_bind, program, Sem.run, Result.andThen_ok, hf, h3, Bool.false_eq_true, if_false, hb, if_true, mark, h1, h2, h4]
    rfl
  · cases h
def XK.name : XK → String
  | .cmp => "internal/bytealg.abigen_runtime_cmpstring"
  | .cnt => "internal/bytealg.CountString"
def extFn (P : Program) (f : FuncId) : Option XK :=
  match P.funcs[f]? with
  | some fn => if fn.body.isNone && fn.origin == "" then
      if fn.name == "internal/bytealg.abigen_runtime_cmpstring" || fn.name == "internal/bytealg.Compare" then some .cmp
      else if fn.name == "internal/bytealg.CountString" then some .cnt else none
    else none
  | none => none
/-- The bytes of a string, or of an empty slice. -/
def bOf : AVal → Option ByteArray
  | .lit (.string s) => some s
  | .sl 0 _ _ => some .empty
  | _ => none
theorem bOf_run {P : Program} {g : Gh} {a : AVal} {cv : Value} {s : ByteArray} (h : bOf a = some s) (k : VR g a cv) (w : World) : (Extern.Bytes.bytesOf cv).run P w = .ok s w := by
  unfold bOf at h
  split at h <;> cases h
  · simp only [VR] at k; subst k; rfl
  · simp only [VR] at k
    obtain ⟨A, c, rfl, _⟩ := k
    cases A <;> rfl
def extR (k : XK) (x y : AVal) : Rs :=
  match k with
  | .cmp => match bOf x, bOf y with
    | some s, some t => ⟨True, .lit (.int .i64 (Lib.compareBytes s.data.toList t.data.toList))⟩
    | _, _ => ⟨False, .any⟩
  | .cnt => match x, y with
    | .lit (.string s), .lit (.int .u8 c) => ⟨True, .lit (.int .i64 (Lib.countByte s.data.toList c.toNat.toUInt8 : Nat))⟩
    | _, _ => ⟨False, .any⟩
theorem extFn_run {P : Program} {f : FuncId} {k : XK} (h : extFn P f = some k) {g : Gh} {x y : AVal} {cx cy : Value} (hx : VR g x cx) (hy : VR g y cy) (hok : (extR k x y).ok) (w : World) :
    ∃ v, (extR k x y).v = .lit v ∧ (callFunc f #[cx, cy]).run P w = .ok (.value v) w := by
  unfold extFn at h
  split at h
  · rename_i fn hf
    split at h
    · rename_i hbo
      simp only [Bool.and_eq_true, beq_iff_eq] at hbo
      obtain ⟨hb, ho⟩ := hbo
      have e2 : Extern.allNextRows.lookup "" = none := by kernel_rfl
      have e3 : Extern.allGenericRows.lookup "" = none := by kernel_rfl
      have e4 : Extern.allTypedRows.lookup "" = none := by kernel_rfl
      split at h
      · rename_i hn
        cases h
        have hn : fn.name = "internal/bytealg.abigen_runtime_cmpstring" ∨ fn.name = "internal/bytealg.Compare" := by simpa using hn
        have h1 : Extern.findNext fn = none := by
          unfold Extern.findNext
          rcases hn with hn | hn <;> rw [hn, ho]
          · have e1 : Extern.allNextRows.lookup "internal/bytealg.abigen_runtime_cmpstring" = none := by kernel_rfl
            simp only [e1, e2]; rfl
          · have e1 : Extern.allNextRows.lookup "internal/bytealg.Compare" = none := by kernel_rfl
            simp only [e1, e2]; rfl
        have h2 : Extern.find fn = some Extern.BytealgCompare.compare := by
          unfold Extern.find
          rcases hn with hn | hn <;> rw [hn, ho]
          · have e1 : Extern.allGenericRows.lookup "internal/bytealg.abigen_runtime_cmpstring" = none := by kernel_rfl
            have e2 : Extern.allTypedRows.lookup "internal/bytealg.abigen_runtime_cmpstring" = none := by kernel_rfl
            have e3 : Extern.allRows.lookup "internal/bytealg.abigen_runtime_cmpstring" = some Extern.BytealgCompare.compare := by kernel_rfl
            simp only [e1, e2, e3]; rfl
          · have e1 : Extern.allGenericRows.lookup "internal/bytealg.Compare" = none := by kernel_rfl
            have e2 : Extern.allTypedRows.lookup "internal/bytealg.Compare" = none := by kernel_rfl
            have e3 : Extern.allRows.lookup "internal/bytealg.Compare" = some Extern.BytealgCompare.compare := by kernel_rfl
            simp only [e1, e2, e3]; rfl
        have h3 : (fn.name == "runtime.NumGoroutine") = false := by rcases hn with hn | hn <;> rw [hn] <;> decide
        simp only [extR] at hok ⊢
        split at hok
        · rename_i s t hs ht
          refine ⟨_, rfl, ?_⟩
          have r1 := bOf_run (P := P) hs hx w
          have r2 := bOf_run (P := P) ht hy w
          have h4 : (Extern.BytealgCompare.compare #[cx, cy]).run P w = .ok (.int .i64 (Lib.compareBytes s.data.toList t.data.toList)) w := by
            change Sem.run P (do pure (goInt (Extern.BytealgCompare.cmp (← Extern.Bytes.bytesOf cx) (← Extern.Bytes.bytesOf cy)))) w = _
            simp only [Sem.run_bind, r1, r2, Result.andThen_ok, Sem.run_pure, Lib.cmp_eq]
            rfl
          unfold callFunc
          simp only [Sem.run_bind, program, Sem.run, Result.andThen_ok, hf, h3, Bool.false_eq_true, if_false, hb, if_true, mark, h1, h2, h4]
          rfl
        · exact hok.elim
      · split at h <;> cases h
        rename_i hn
        have hn : fn.name = "internal/bytealg.CountString" := by simpa using hn
        have h1 : Extern.findNext fn = none := by
          unfold Extern.findNext
          rw [hn, ho]
          have e1 : Extern.allNextRows.lookup "internal/bytealg.CountString" = none := by kernel_rfl
          simp only [e1, e2]; rfl
        have h2 : Extern.find fn = some Extern.BytealgCount.count := by
          unfold Extern.find
          rw [hn, ho]
          have e1 : Extern.allGenericRows.lookup "internal/bytealg.CountString" = none := by kernel_rfl
          have e2 : Extern.allTypedRows.lookup "internal/bytealg.CountString" = none := by kernel_rfl
          have e3 : Extern.allRows.lookup "internal/bytealg.CountString" = some Extern.BytealgCount.count := by kernel_rfl
          simp only [e1, e2, e3]; rfl
        have h3 : (fn.name == "runtime.NumGoroutine") = false := by rw [hn]; decide
        simp only [extR] at hok ⊢
        split at hok
        · rename_i s c
          simp only [VR] at hx hy
          subst hx; subst hy
          refine ⟨_, rfl, ?_⟩
          have h4 := Lib.run_countString (P := P) s c w
          unfold callFunc
          simp only [Sem.run_bind, program, Sem.run, Result.andThen_ok, hf, h3, Bool.false_eq_true, if_false, hb, if_true, mark, h1, h2, h4]
          rfl
        · exact hok.elim
    · cases h
  · cases h
def idxR (x c : AVal) : Rs :=
  match x, c with
  | .lit (.string s), .lit (.int .u8 c) => ⟨True, .lit (.int .i64 (Lib.indexByte s.data.toList c.toNat.toUInt8))⟩
  | _, _ => ⟨False, .any⟩
def partsA (A : ATmps) (ps : List (Nat × Operand)) : List (Nat × AVal) := ps.map fun p => (p.1, aeval A p.2)
def tobR (x : AVal) : Rs :=
  match x with
  | .lit (.string s) => ⟨True, .sl s.size (aBytes s.data.toList) .no⟩
  | _ => ⟨False, .any⟩
def buildR (pl : Places) (z : List AVal) (ps : List (Nat × AVal)) : Rs :=
  match aFill pl.get z ps with
  | some cs => ⟨True, .agg cs⟩
  | none => ⟨False, .any⟩
def bsliceR (sz n : Nat) (ps : List (Nat × AVal)) : Rs :=
  match aSeq sz 0 ps with
  | some cs => ⟨True, .sl n cs .full⟩
  | none => ⟨False, .any⟩
/-- A string of the bytes of a slice. -/
def bstrR (μ : AMem) (x : AVal) : Rs :=
  match x with
  | .ms id off n tk => match asrc μ 1 (.ms id off n tk) with
    | some (m, ds) => ⟨m = n ∧ ds.length = n ∧ (bytesOf? ds).isSome = true, .lit (.string ⟨⟨(bytesOf? ds).getD []⟩⟩)⟩
    | none => ⟨False, .any⟩
  | x => convR .bstr x
theorem bytesAre_of {g : Gh} : ∀ {ds : List AVal} {vs : List Value} {l : List UInt8}, bytesOf? ds = some l → VRs g ds vs → BytesAre vs l
  | [], vs, l, h, k => by simp only [bytesOf?] at h; cases h; simp only [VRs] at k; subst k; rfl
  | c :: cs, vs, l, h, k => by
    simp only [bytesOf?] at h
    split at h <;> cases h
    rename_i b' l' hb hl
    simp only [VRs] at k
    obtain ⟨v, vs', rfl, rv, k⟩ := k
    unfold byteOf? at hb
    split at hb <;> cases hb
    rename_i n
    simp only [VR] at rv
    subst rv
    exact ⟨n, l', rfl, rfl, bytesAre_of hl k⟩
def QOp.sem (o : QOp) (A : ATmps) (μ : AMem) : Rs :=
  match o with
  | .move x => ⟨True, aeval A x⟩
  | .pick c a b => pickR (aeval A c) (aeval A a) (aeval A b)
  | .load k x => loadR k (derefS μ (aeval A x))
  | .nilc x => nilcR (aeval A x)
  | .bin op e x y => binR op e (isConstOp x || isConstOp y) (aeval A x) (aeval A y)
  | .un op x => unR op (aeval A x)
  | .conv (.tob _) x => tobR (aeval A x)
  | .conv .bstr x => bstrR μ (aeval A x)
  | .conv c x => convR c (aeval A x)
  | .iface t x => ⟨True, .ifc t (aeval A x)⟩
  | .func f fs cs => ⟨True, .fn f (fs.map (aeval A)) (cs.map (aeval A))⟩
  | .slice r x lo hi mx => sliceR r A (aeval A x) lo hi mx
  | .faddr off x => shiftR off (aeval A x)
  | .field off k x => fieldR off k (aeval A x)
  | .iaddr r x i => indexAddrR r (aeval A x) (aeval A i)
  | .index r k x i => indexR r k (aeval A x) (aeval A i)
  | .lookup kk z x k ok => lookupR kk z μ (aeval A x) (aeval A k) ok
  | .assert z t ok x => assertR z t ok (aeval A x)
  | .extract x i => extractR (aeval A x) i
  | .len l x => lenR l μ (aeval A x)
  | .max xs => Rs.of (aFold intMax (xs.map (aeval A)))
  | .min xs => Rs.of (aFold intMin (xs.map (aeval A)))
  | .build pl z ps => buildR pl z (partsA A ps)
  | .bslice sz n ps => bsliceR sz n (partsA A ps)
  | .idx x c => idxR (aeval A x) (aeval A c)
  | .ext k x y => extR k (aeval A x) (aeval A y)
/-- An operation, its types resolved. -/
def resQ (P : Program) (o : Op) : Option QOp :=
  match o with
  | .move x | .assign x => some (.move x)
  | .pick c a b => some (.pick c a b)
  | .load t x => (tyR P t).map fun k => .load k x
  | .nilCheck x => some (.nilc x)
  | .binOp op t x y _ => some (.bin op (eqK P t) x y)
  | .unOp op _ x => some (.un op x)
  | .convert s t x => match convK P s t with
    | .no => none
    | c => some (.conv c x)
  | .makeInterface t x => if isIface P t = some false then some (.iface t x) else none
  | .makeFunc f fs cs => some (.func f fs.toList cs.toList)
  | .slice t x lo hi mx => (rowOf P t).map fun r => .slice r x lo hi mx
  | .fieldAddr s x f => (fieldOff P s f).map fun off => .faddr off x
  | .field s x f => match fieldPart P s f with
    | some (off, t) => (tyR P t).map fun k => .field off k x
    | none => none
  | .indexAddr t x i => (rowOf P t).map fun r => .iaddr r x i
  | .index t x i => match rowOf P t with
    | some .str => some (.index .str none x i)
    | some r => (tyR P (rowElem r)).map fun k => .index r k x i
    | none => none
  | .lookup t x k ok => match mapInfo P t with
    | some (_, kk, e) => (zeroA P e).map fun z => .lookup kk z x k ok
    | none => none
  | .typeAssert x _ t ok => if isIface P t = some false then (zeroA P t).map fun z => .assert z t ok x else none
  | .extract x i => some (.extract x i)
  | .build t ps => (buildInfo P t).map fun i => .build i.1 i.2 ps.toList
  | .buildSlice t n ps => match rowOf P t with
    | some (.sl e sz) => if ps.size = n ∧ n * sz ≤ 16777216 ∧ ((zeroA P e).isSome = true ∨ n = 0) then some (.bslice sz n ps.toList) else none
    | _ => none
  | .call { callee := .builtin .len, args := ⟨[x]⟩, argTypes := ⟨[t]⟩ } => (lenK P t).map fun l => .len l x
  | .call { callee := .builtin .max, args, .. } => some (.max args.toList)
  | .call { callee := .builtin .min, args, .. } => some (.min args.toList)
  | .call { callee := .value (.func f), args := ⟨[x, c]⟩, .. } => if idxFn P f = true then some (.idx x c) else (extFn P f).map fun k => .ext k x c
  | _ => none
/-- What a quiet operation comes to in the model. -/
def Quiet (P : Program) (g : Gh) (μ : AMem) (w : World) (ρ : Operand → Value) (o : Oper) (v : AVal) : Prop :=
  ∃ cv w' g', (execOp ρ o).run P w = .ok (.value cv) w' ∧ VR g' v cv ∧ Sim P g' w' μ ∧ St g w μ g' w' μ
theorem pickR_ok {g : Gh} {c a b : AVal} {vc va vb : Value} (h : (pickR c a b).ok) (kc : VR g c vc) (ka : VR g a va) (kb : VR g b vb) : ∃ t : Bool, vc = .bool t ∧ VR g (pickR c a b).v (if t then va else vb) := by
  unfold pickR at h ⊢
  split at h
  · rename_i t
    simp only [VR] at kc
    refine ⟨t, kc, ?_⟩
    split at h
    · rename_i x y h1 h2
      simp only
      cases t
      · have := VR_guardV (p := !false) rfl kb
        rw [h2] at this
        simpa [VR] using this
      · have := VR_guardV (p := true) rfl ka
        rw [h1] at this
        simpa [VR] using this
    · rename_i x h1 _
      have ht : t = true := h
      subst ht
      have := VR_guardV (p := true) rfl ka
      rw [h1] at this
      simpa [VR] using this
    · rename_i y h2 _
      have ht : t = false := h
      subst ht
      have := VR_guardV (p := !false) rfl kb
      rw [h2] at this
      simpa [VR] using this
    · exact h.elim
  · exact h.elim
theorem run_tob {P : Program} {g : Gh} {w : World} {μ : AMem} (hs : Sim P g w μ) {s t e : TypeId} {u : TypeDesc} (hu : P.underlying s = some u) (ht : P.underlying t = some (.slice e)) (he : P.underlying e = some (.int .u8)) (b : ByteArray) :
    ∃ c w' g', (convert s t (.string b)).run P w = .ok c w' ∧ VR g' (.sl b.size (aBytes b.data.toList) .no) c ∧ Sim P g' w' μ ∧ St g w μ g' w' μ := by
  have hrun := Lib.run_convert_string_bytes (P := P) w s t e b hu ht he
  have hheap : (Lib.bytesWorld w e b).heap = (w.alloc (.cells ⟨(Lib.bytesCells w e b).toList⟩ e ((Lib.bytesCells w e b).size, (Lib.bytesCells w e b).size + 1))).heap := by
    apply Array.ext_getElem?
    intro i
    rcases Nat.lt_trichotomy i w.heap.size with hi | hi | hi
    · rw [Lib.bytesWorld_at_old w e b i hi, heap_alloc_old w _ hi]
    · subst hi; rw [Lib.bytesWorld_at_new, heap_alloc_new']
    · rw [Array.getElem?_eq_none (by rw [Lib.bytesWorld_size]; omega), Array.getElem?_eq_none (by simp; omega)]
  have h1 := Sim.fix hs (Lib.bytesCells w e b).toList e ((Lib.bytesCells w e b).size, (Lib.bytesCells w e b).size + 1)
  have h2 := Sim.drew h1.1 (w' := Lib.bytesWorld w e b) hheap rfl rfl rfl
  refine ⟨_, _, _, hrun, ?_, h2.1, h1.2.trans h2.2⟩
  simp only [VR]
  have hge : b.size ≤ grownCap w b.size 0 e := by
    have := grownCap_ge w b.size 0 e
    exact this
  refine ⟨_, _, rfl, hge, trivial, .inr ⟨w.heap.size, 0, rfl, ?_⟩⟩
  refine VC.of fun i a hi => ?_
  simp only [aBytes, List.getElem?_map] at hi
  cases hb : b.data.toList[i]? with
  | none => simp [hb] at hi
  | some x =>
    simp only [hb, Option.map_some, Option.some.injEq] at hi
    subst hi
    refine ⟨.int .u8 x.toNat, ?_, by simp [VR]⟩
    have hl := (List.getElem?_eq_some_iff.1 hb).1
    simp only [Gh.fix, if_true, Nat.zero_add, Lib.bytesCells]
    simp only [Array.toList_append, Array.toList_map]
    rw [List.getElem?_append_left (by simpa using hl), List.getElem?_map, hb]
    rfl
theorem partsA_eq (A : ATmps) (ps : Array (Nat × Operand)) : partsA A ps.toList = aParts A ps := rfl
theorem evals {g : Gh} {N : Nat} {A : ATmps} {a : Act} (ht : TR N g A a) : ∀ (l : List Operand), VRs g (l.map (aeval A)) (l.map a.eval)
  | [] => by simp [VRs]
  | x :: l => by simp only [List.map_cons, VRs]; exact ⟨_, _, rfl, ht.eval x, evals ht l⟩
theorem Quiet.of {P : Program} {g : Gh} {μ : AMem} {w : World} {ρ : Operand → Value} {o : Oper} {v : AVal} (hs : Sim P g w μ) {s : Sem Value} (he : execOp ρ o = (do pure (.value (← s)) : Sem Next)) {c : Value} (h : s.run P w = .ok c w ∧ VR g v c) : Quiet P g μ w ρ o v := by
  refine ⟨c, w, g, ?_, h.2, hs, .refl _ _ _⟩
  rw [he]; simp only [Sem.run_bind, h.1, Result.andThen_ok, Sem.run_pure]
theorem Quiet.of' {P : Program} {g : Gh} {μ : AMem} {w : World} {ρ : Operand → Value} {o : Oper} {v : AVal} {s : Sem Value} (he : execOp ρ o = (do pure (.value (← s)) : Sem Next)) (h : ∃ c w' g', s.run P w = .ok c w' ∧ VR g' v c ∧ Sim P g' w' μ ∧ St g w μ g' w' μ) : Quiet P g μ w ρ o v := by
  obtain ⟨c, w', g', h1, h2, h3, h4⟩ := h
  refine ⟨c, w', g', ?_, h2, h3, h4⟩
  rw [he]; simp only [Sem.run_bind, h1, Result.andThen_ok, Sem.run_pure]
theorem fieldOff_eq {P : Program} {s : TypeId} {f off : Nat} (h : fieldOff P s f = some off) (x : AVal) : aFieldAddr P s x f = shiftP off x := by simp [aFieldAddr, h]
set_option maxHeartbeats 2000000 in
theorem run_Q {P : Program} {g : Gh} {w : World} {μ : AMem} (hs : Sim P g w μ) {N : Nat} {A : ATmps} {a : Act} (ht : TR N g A a) {o : Oper} {q : QOp} (hq : resQ P o.op = some q) (hok : (q.sem A μ).ok) : Quiet P g μ w a.eval o (q.sem A μ).v := by
  unfold resQ at hq
  split at hq
  · cases hq
    rename_i x e
    refine ⟨a.eval x, w, g, by rw [show execOp a.eval o = pure (.value (a.eval x)) by simp [execOp, e]]; rfl, ht.eval x, hs, .refl _ _ _⟩
  · cases hq
    rename_i x e
    refine ⟨a.eval x, w, g, by rw [show execOp a.eval o = pure (.value (a.eval x)) by simp [execOp, e]]; rfl, ht.eval x, hs, .refl _ _ _⟩
  · cases hq
    rename_i c x y e
    obtain ⟨t, hc, hv⟩ := pickR_ok hok (ht.eval c) (ht.eval x) (ht.eval y)
    refine ⟨_, w, g, ?_, hv, hs, .refl _ _ _⟩
    simp only [execOp, e, hc, asBool, Sem.run_bind, Sem.run_pure, Result.andThen_ok]
  · obtain ⟨k, hk, rfl⟩ := Option.map_eq_some_iff.1 hq
    rename_i t x e
    obtain ⟨c, h⟩ := run_loadAt hs (loadR_ok hk hok) (ht.eval x)
    exact .of hs (by simp only [execOp, e]) h
  · cases hq
    rename_i x e
    have hx := ht.eval x
    simp only [QOp.sem, nilcR] at hok ⊢
    have fin : ∀ c, (execOp a.eval o).run P w = .ok (.value (a.eval x)) w → VR g c (a.eval x) → Quiet P g μ w a.eval o c := fun c h1 h2 => ⟨_, w, g, h1, h2, hs, .refl _ _ _⟩
    split at hok
    · rename_i he
      refine fin _ ?_ hx
      rw [he] at hx
      simp only [VR] at hx
      obtain ⟨b, _, hx⟩ := hx
      simp only [execOp, e, hx]; rfl
    · rename_i he
      refine fin _ ?_ hx
      rw [he] at hx
      simp only [VR] at hx
      obtain ⟨b, _, hx, _⟩ := hx
      simp only [execOp, e, hx]; rfl
    · rename_i he
      refine fin _ ?_ hx
      rw [he] at hx
      simp only [VR] at hx
      obtain ⟨b, hx, _⟩ := hx
      simp only [execOp, e, hx]; rfl
    · rename_i he
      refine fin _ ?_ hx
      rw [he] at hx
      simp only [VR] at hx
      simp only [execOp, e, hx]; rfl
    · rename_i he
      refine fin _ ?_ hx
      rw [he] at hx
      simp only [VR] at hx
      obtain ⟨b, _, hx, _⟩ := hx
      simp only [execOp, e, hx]; rfl
    · exact hok.elim
  · cases hq
    rename_i op t x y yt e
    obtain ⟨c, h⟩ := run_aBin (binR_ok hok) (ht.eval x) (ht.eval y) w
    exact .of hs (by simp only [execOp, e]) h
  · cases hq
    rename_i op t x e
    obtain ⟨c, h⟩ := run_aUn (unR_ok hok) (ht.eval x) w
    exact .of hs (by simp only [execOp, e]) h
  · rename_i s t x e
    generalize hk : convK P s t = ck at hq
    have plain : q = .conv ck x → QOp.sem (.conv ck x) A μ = convR ck (aeval A x) → Quiet P g μ w a.eval o (q.sem A μ).v := by
      intro h1 e1
      subst h1
      rw [e1] at hok ⊢
      rw [← hk] at hok ⊢
      obtain ⟨c, h⟩ := run_aConv hs (convR_ok hok) (ht.eval x)
      exact .of hs (by simp only [execOp, e]) h
    cases ck with
    | no => cases hq
    | int k => cases hq; exact plain rfl rfl
    | str => cases hq; exact plain rfl rfl
    | bstr =>
      cases hq
      by_cases hms : ∃ id off n tk, aeval A x = .ms id off n tk
      · obtain ⟨id, off, n, tk, hxe⟩ := hms
        have hx := ht.eval x
        simp only [QOp.sem, hxe, bstrR] at hok ⊢
        rw [hxe] at hx
        simp only [VR] at hx
        obtain ⟨b, c, hb, hcx, hn, _⟩ := hx
        split at hok
        · rename_i m ds hsrc
          obtain ⟨rfl, hdl, hbs⟩ := hok
          obtain ⟨l, hl⟩ := Option.isSome_iff_exists.1 hbs
          simp only [asrc] at hsrc
          split at hsrc <;> try (cases hsrc; done)
          rename_i cs hcs
          split at hsrc <;> cases hsrc
          have hc := rowCs_spec hs hcs hb
          obtain ⟨vs, r, hv⟩ := cells_list (g := g) (w := w) (b := b) ((cs.drop off).take (m * 1)) off fun i a hi => by
            rw [List.getElem?_take] at hi
            split at hi
            · rw [List.getElem?_drop] at hi; exact hc _ a hi
            · cases hi
          have hlc := run_loadCells_list (P := P) w ⟨b, off, none⟩ vs fun j u hj => by rw [Addr.add_mid]; exact hv j u hj
          rw [r.length, hdl] at hlc
          have hstr := run_toString (c := c) hlc (bytesAre_of hl r)
          unfold convK at hk
          split at hk <;> try (cases hk; done)
          · split at hk <;> cases hk
          · split at hk <;> cases hk
            rename_i h1 h2 _ h3
            refine ⟨.string ⟨⟨l⟩⟩, w, g, ?_, by rw [hl]; simp only [Option.getD_some, VR], hs, .refl _ _ _⟩
            have hcv : (convert s t (a.eval x)).run P w = .ok (.string ⟨⟨l⟩⟩) w := by
              rw [hcx]
              simp only [convert, Sem.run_bind, run_underlying (by assumption : P.underlying s = _), run_underlying (by assumption : P.underlying t = _), run_underlying h3, Result.andThen_ok]
              exact hstr
            simp only [execOp, e, Sem.run_bind, hcv, Result.andThen_ok, Sem.run_pure]
        · exact hok.elim
      · exact plain rfl (by
          simp only [QOp.sem]
          unfold bstrR
          split
          · rename_i hxe; exact absurd ⟨_, _, _, _, hxe⟩ hms
          · rfl)
    | tob el =>
      cases hq
      simp only [QOp.sem, tobR] at hok ⊢
      split at hok
      · rename_i b hb
        have hx := ht.eval x
        rw [hb] at hx
        simp only [VR] at hx
        unfold convK at hk
        split at hk <;> try (cases hk; done)
        · split at hk <;> cases hk
          rename_i h1 h2 _ h3
          refine .of' (s := convert s t (a.eval x)) (by simp only [execOp, e]) ?_
          rw [hx]
          exact run_tob hs h1 (by assumption) h3 b
        · split at hk <;> cases hk
      · exact hok.elim
  · rename_i t x e
    split at hq <;> cases hq
    rename_i hi
    obtain ⟨c, h⟩ := run_aIface (P := P) (t := t) (v := .ifc t (aeval A x)) (by simp [aIface, hi]) (ht.eval x) w
    exact .of hs (by simp only [execOp, e]) h
  · cases hq
    rename_i f fs cs e
    refine .of hs (s := Instr.makeFunc f (fs.map a.eval) (cs.map a.eval)) (c := .func f ⟨fs.toList.map a.eval⟩ ⟨cs.toList.map a.eval⟩) (by simp only [execOp, e]) ⟨?_, ?_⟩
    · simp only [Instr.makeFunc, Sem.run_pure]
      congr 2 <;> (apply Array.ext'; simp)
    · simp only [QOp.sem, VR]
      exact ⟨_, _, rfl, evals ht _, evals ht _⟩
  · obtain ⟨r, hr, rfl⟩ := Option.map_eq_some_iff.1 hq
    rename_i t x lo hi mx e
    obtain ⟨c, h⟩ := run_aSlice ht (sliceR_ok hr hok) (ht.eval x) w
    exact .of hs (by simp only [execOp, e]) h
  · obtain ⟨off, hr, rfl⟩ := Option.map_eq_some_iff.1 hq
    rename_i s x f e
    obtain ⟨c, h⟩ := run_fieldAt (v := (shiftR off (aeval A x)).v) (by rw [fieldOff_eq hr]; exact shiftR_ok hok) (ht.eval x) w
    exact .of hs (by simp only [execOp, e]) h
  · rename_i s x f e
    split at hq <;> try (cases hq; done)
    rename_i off t hf
    obtain ⟨k, hk, rfl⟩ := Option.map_eq_some_iff.1 hq
    simp only [QOp.sem] at hok ⊢
    unfold fieldR at hok ⊢
    split at hok
    · rename_i cs hcs
      obtain ⟨c, h⟩ := run_field (P := P) (s := s) (f := f) (x := aeval A x) (v := (partR k cs off).v) (by simp only [aField, hf, hcs]; exact partR_ok hk hok) (ht.eval x) w
      exact .of hs (by simp only [execOp, e]) h
    · exact hok.elim
  · obtain ⟨r, hr, rfl⟩ := Option.map_eq_some_iff.1 hq
    rename_i t x i e
    obtain ⟨c, h⟩ := run_indexAt (indexAddrR_ok hr hok) (ht.eval x) (ht.eval i) w
    exact .of hs (by simp only [execOp, e]) h
  · rename_i t x i e
    split at hq
    · cases hq
      rename_i hr
      obtain ⟨c, h⟩ := run_index (indexR_ok hr (.inl rfl) hok) (ht.eval x) (ht.eval i) w
      exact .of hs (by simp only [execOp, e]) h
    · obtain ⟨k, hk, rfl⟩ := Option.map_eq_some_iff.1 hq
      rename_i hr
      obtain ⟨c, h⟩ := run_index (indexR_ok hr (.inr hk) hok) (ht.eval x) (ht.eval i) w
      exact .of hs (by simp only [execOp, e]) h
    · cases hq
  · rename_i t x k ok e
    split at hq <;> try (cases hq; done)
    rename_i kt kk et hm
    obtain ⟨z, hz, rfl⟩ := Option.map_eq_some_iff.1 hq
    obtain ⟨c, h⟩ := run_aLookup hs (lookupR_ok hm hz hok) (ht.eval x) (ht.eval k)
    exact .of hs (by simp only [execOp, e]) h
  · rename_i x xt t ok e
    split at hq <;> try (cases hq; done)
    rename_i hi
    obtain ⟨z, hz, rfl⟩ := Option.map_eq_some_iff.1 hq
    obtain ⟨c, h⟩ := run_aAssert (xt := xt) (assertR_ok hi hz hok) (ht.eval x) w
    exact .of hs (by simp only [execOp, e]) h
  · cases hq
    rename_i x i e
    obtain ⟨c, h⟩ := run_aExtract (extractR_ok hok) (ht.eval x) w
    exact .of hs (by simp only [execOp, e]) h
  · obtain ⟨i, hi, rfl⟩ := Option.map_eq_some_iff.1 hq
    rename_i t ps e
    simp only [QOp.sem, buildR] at hok ⊢
    rw [partsA_eq] at hok ⊢
    split at hok
    · rename_i cs hcs
      obtain ⟨c, h⟩ := run_aBuild (P := P) ht (t := t) (ps := ps) (v := .agg cs) (by simp only [aBuild, hi, hcs]) w
      exact .of hs (by simp only [execOp, e]) h
    · exact hok.elim
  · rename_i t n ps e
    split at hq <;> try (cases hq; done)
    rename_i el sz hr
    split at hq <;> cases hq
    rename_i hc
    simp only [QOp.sem, bsliceR] at hok ⊢
    rw [partsA_eq] at hok ⊢
    split at hok
    · rename_i cs hcs
      have hl : (aParts A ps).length = n := by simp [aParts, hc.1]
      have hb : aBuildSlice P t n (aParts A ps) = some (.sl n cs .full) := by
        simp only [aBuildSlice, hr]
        rw [if_pos ⟨hl, hc.2⟩, hcs]
      have hrun := run_aBuildSlice (P := P) hs ht (t := t) (n := n) (ps := ps) hb
      exact .of' (s := Instr.buildSlice t n (ps.map fun (i, x) => (i, a.eval x))) (by simp only [execOp, e]) hrun
    · exact hok.elim
  · obtain ⟨l, hl, rfl⟩ := Option.map_eq_some_iff.1 hq
    rename_i x t e
    obtain ⟨c, h⟩ := run_aLen (ty := o.type) hs (lenR_ok hl hok) (ht.eval x)
    refine .of hs (s := Builtin.len_ #[t] o.type #[a.eval x]) ?_ h
    simp [execOp, e, resolve, invoke, builtin]
  · cases hq
    rename_i args ts e
    obtain ⟨c, h⟩ := run_aMax (ts := ts) (ty := o.type) (Rs.of_ok hok) (evals ht _) w
    refine .of hs (s := Builtin.max_ ts o.type ⟨args.toList.map a.eval⟩) ?_ h
    have : args.map a.eval = ⟨args.toList.map a.eval⟩ := by apply Array.ext'; simp
    simp [execOp, e, resolve, invoke, builtin, this]
  · cases hq
    rename_i args ts e
    obtain ⟨c, h⟩ := run_aMin (ts := ts) (ty := o.type) (Rs.of_ok hok) (evals ht _) w
    refine .of hs (s := Builtin.min_ ts o.type ⟨args.toList.map a.eval⟩) ?_ h
    have : args.map a.eval = ⟨args.toList.map a.eval⟩ := by apply Array.ext'; simp
    simp [execOp, e, resolve, invoke, builtin, this]
  · rename_i f x c ts e
    have hx := ht.eval x
    have hc := ht.eval c
    have hf : a.eval (.func f) = .func (.func f) #[] #[] := rfl
    split at hq
    · rename_i hi
      cases hq
      simp only [QOp.sem, idxR] at hok ⊢
      split at hok
      · rename_i s c' hxe hce
        rw [hxe] at hx
        rw [hce] at hc
        simp only [VR] at hx hc
        refine ⟨.int .i64 (Lib.indexByte s.data.toList c'.toNat.toUInt8), w, g, ?_, by simp only [VR], hs, .refl _ _ _⟩
        have := idxFn_run hi s c' w
        rw [← this]
        simp [execOp, e, resolve, Deferred.ofValue, invoke, hf, hx, hc]
      · exact hok.elim
    · obtain ⟨k, hk, rfl⟩ := Option.map_eq_some_iff.1 hq
      simp only [QOp.sem] at hok ⊢
      obtain ⟨v, hv, hr⟩ := extFn_run hk hx hc hok w
      refine ⟨v, w, g, ?_, by rw [hv]; simp only [VR], hs, .refl _ _ _⟩
      rw [← hr]
      simp [execOp, e, resolve, Deferred.ofValue, invoke, hf]
  · cases hq
end Go.Proofs.YtjleeecaebgblaaGreatDoor.AL
namespace Go.Proofs.YtjleeecaebgblaaGreatDoor.AL
open Go.RowKit
inductive NOp where
  | alloc (t : TypeId) (zs : List AVal)
  | box (t : TypeId) (x : Operand)
  | makeMap (kk : KeyK)
  | make (e : TypeId) (bytes : Nat) (zs : List AVal) (l c : Operand)
  | bslice (e : TypeId) (sz n : Nat) (ps : List (Nat × Operand))
structure Rnew where
  ok : Prop
  blk : ABlk
  v : Nat → AVal
def vcellsR : AVal → Ds
  | .agg cs => ⟨True, cs⟩
  | .any | .tup _ | .opt _ _ => ⟨False, []⟩
  | .lit v => ⟨v.oneCell' = true, [.lit v]⟩
  | a => ⟨True, [a]⟩
theorem vcellsR_ok {a : AVal} (h : (vcellsR a).ok) : vcells a = some (vcellsR a).cs := by
  cases a <;> simp only [vcellsR] at h <;> first | exact h.elim | rfl | (simp only [vcells, vcellsR]; exact if_pos h)
def NOp.sem (o : NOp) (A : ATmps) : Rnew :=
  match o with
  | .alloc t zs => ⟨True, .cells t zs, fun id => .ptr id 0⟩
  | .box t x => ⟨(vcellsR (aeval A x)).ok, .cells t (vcellsR (aeval A x)).cs, fun id => .ptr id 0⟩
  | .makeMap kk => ⟨True, .map kk [], fun id => .mp id⟩
  | .make e bytes zs l c => match aeval A l, aeval A c with
    | .lit (.int .i64 l), .lit (.int .i64 c) => ⟨0 < l ∧ l ≤ c ∧ c * (bytes : Int) ≤ 140737488355328 ∧ c ≤ 140737488355328, .cells e (zeros c.toNat zs), fun id => .ms id 0 l.toNat (if l = c then .full else .no)⟩
    | _, _ => ⟨False, .dead, fun _ => .any⟩
  | .bslice e sz n ps => match aSeq sz 0 (partsA A ps) with
    | some cs => ⟨True, .cells e cs, fun id => .ms id 0 n .full⟩
    | none => ⟨False, .dead, fun _ => .any⟩
def resN (P : Program) (mu : Bool) (o : Op) : Option NOp :=
  match o with
  | .alloc t => match zeroA P t with
    | some z => (vcells z).map fun zs => .alloc t zs
    | none => none
  | .box t x => some (.box t x)
  | .makeMap t none => match mapInfo P t with
    | some (_, kk, _) => some (.makeMap kk)
    | none => none
  | .makeSlice t l c => match rowOf P t with
    | some (.sl e sz) => match zeroA P e with
      | some z => match vcells z with
        | some zs => if zs.length = sz then some (.make e (P.bytesOf e) zs l c) else none
        | none => none
      | none => none
    | _ => none
  | .buildSlice t n ps => if mu then match rowOf P t with
      | some (.sl e sz) => if ps.size = n ∧ n * sz ≤ 16777216 ∧ ((zeroA P e).isSome = true ∨ n = 0) then some (.bslice e sz n ps.toList) else none
      | _ => none
    else none
  | _ => none
/-- What an operation that makes a block comes to in the model. -/
def NewR (P : Program) (g : Gh) (w : World) (ρ : Operand → Value) (o : Oper) (r : Rnew) : Prop :=
  ∃ obj cv, (execOp ρ o).run P w = .ok (.value cv) (w.alloc obj) ∧ ∀ g' id, g.le g' → g'.φ id = some w.heap.size → BR P g' (w.alloc obj) id w.heap.size r.blk ∧ VR g' (r.v id) cv
theorem run_N {P : Program} {g : Gh} {w : World} {N : Nat} {A : ATmps} {a : Act} (ht : TR N g A a) {o : Oper} {q : NOp} {mu : Bool} (hq : resN P mu o.op = some q) (hok : (q.sem A).ok) : NewR P g w a.eval o (q.sem A) := by
  unfold resN at hq
  split at hq
  · rename_i t e
    split at hq <;> try (cases hq; done)
    rename_i z hz
    obtain ⟨zs, hzs, rfl⟩ := Option.map_eq_some_iff.1 hq
    obtain ⟨c0, hc0, r0⟩ := run_zero hz g
    have hv := vcells_spec hzs r0
    refine ⟨.cells c0.cells t (0, 0), .pointer (some ⟨w.heap.size, 0, none⟩), ?_, fun g' id hle hid => ⟨?_, ?_⟩⟩
    · simp only [execOp, e, Sem.run_bind]
      simp [Instr.alloc, hc0, newVar, newRow, newObj, Sem.run, World.alloc_eq]
    · simp only [NOp.sem, BR]; exact ⟨c0.cells.toList, heap_alloc_new' _ _, VRs.mono hle _ _ hv⟩
    · simp only [NOp.sem, VR]; exact ⟨_, hid, rfl⟩
  · cases hq
    rename_i t x e
    have hv := vcells_spec (vcellsR_ok hok) (ht.eval x)
    refine ⟨.cells (a.eval x).cells t (0, 0), .pointer (some ⟨w.heap.size, 0, none⟩), ?_, fun g' id hle hid => ⟨?_, ?_⟩⟩
    · simp only [execOp, e, Sem.run_bind]
      simp [Instr.box, newVar, newRow, newObj, Sem.run, World.alloc_eq]
    · simp only [NOp.sem, BR]; exact ⟨(a.eval x).cells.toList, heap_alloc_new' _ _, VRs.mono hle _ _ hv⟩
    · simp only [NOp.sem, VR]; exact ⟨_, hid, rfl⟩
  · rename_i t e
    split at hq <;> cases hq
    refine ⟨.map #[] 0, .map (some w.heap.size), ?_, fun g' id hle hid => ⟨?_, ?_⟩⟩
    · simp only [execOp, e, Sem.run_bind]
      simp [Instr.makeMap, newObj, Sem.run, World.alloc_eq]
    · simp only [NOp.sem, BR]; exact ⟨[], 0, heap_alloc_new' _ _, by simp [MR], by simp, by simp, by simp⟩
    · simp only [NOp.sem, VR]; exact ⟨_, hid, rfl⟩
  · rename_i t l c e
    split at hq <;> try (cases hq; done)
    rename_i el sz hrow
    split at hq <;> try (cases hq; done)
    rename_i z hz
    split at hq <;> try (cases hq; done)
    rename_i zs hzs
    split at hq <;> cases hq
    rename_i hzl
    obtain ⟨hu, hsz, inf, hi⟩ := rowOf_sl hrow
    have kl := ht.eval l
    have kc := ht.eval c
    simp only [NOp.sem] at hok ⊢
    split at hok
    · rename_i l' c' hl hc
      rw [hl] at kl
      rw [hc] at kc
      simp only [VR] at kl kc
      obtain ⟨c0, hc0, r0⟩ := run_zero hz g
      have hvc := vcells_spec hzs r0
      have hzz := zeros_spec hvc c'.toNat
      refine ⟨.cells ⟨(List.range (c'.toNat * zs.length)).map (fun i => c0.cells[i % c0.cells.size]!)⟩ el, .slice (some ⟨w.heap.size, 0, none⟩) l'.toNat c'.toNat, ?_, fun g' id hle hid => ⟨?_, ?_⟩⟩
      · have w1 : IntKind.i64.wrap l' = l' := IntWalk.i64_in _ (by omega)
        have w2 : IntKind.i64.wrap c' = c' := IntWalk.i64_in _ (by omega)
        have hb := bytesOf_info hi
        have h2 : ¬ (281474976710656 < (inf.bytes : Int) * c') := by rw [← hb, Int.mul_comm]; omega
        have hask : ∀ q : Nat, (askRoom q).run P w = .ok () w := fun q => by unfold askRoom; split <;> rfl
        have hlc : ¬ (l' < 0) := by omega
        have hcc : ¬ (c' < 0) := by omega
        have hl2 : ¬ (c' < l') := by omega
        have harr : ∀ n, (Array.range n).map (fun i => c0.cells[i % c0.cells.size]!) = ⟨(List.range n).map (fun i => c0.cells[i % c0.cells.size]!)⟩ := by
          intro n; apply Array.ext'; simp
        simp only [execOp, e, Sem.run_bind, kl, kc]
        have hzl' : zs.length = P.cellsOf el := hzl.trans hsz
        by_cases hn : c'.toNat * P.cellsOf el = 0
        · simp [Instr.makeSlice, run_underlying hu, asInt, asIntOf, typeInfo, hi, w1, w2, h2, hlc, hcc, hl2, hask, run_sizeOf' hi, hn, hc0, newRow, newObj, Sem.run, hzl']
          have : (Array.range 0) = #[] := by simp
          rw [this, Array.map_empty]
        · simp [Instr.makeSlice, run_underlying hu, asInt, asIntOf, typeInfo, hi, w1, w2, h2, hlc, hcc, hl2, hask, run_sizeOf' hi, hn, hc0, newRow, newObj, Sem.run, hzl', harr]
      · simp only [BR]; exact ⟨_, heap_alloc_new' _ _, VRs.mono hle _ _ hzz⟩
      · simp only [VR]; exact ⟨_, _, hid, rfl, by omega, by split <;> simp only [TkM]; omega⟩
    · exact hok.elim
  · rename_i t n ps e
    split at hq <;> try (cases hq; done)
    split at hq <;> try (cases hq; done)
    rename_i el sz hrow
    split at hq <;> cases hq
    rename_i hc
    simp only [NOp.sem] at hok ⊢
    rw [partsA_eq] at hok ⊢
    split at hok
    · rename_i cs hcs
      have hl : (aParts A ps).length = n := by simp [aParts, hc.1]
      obtain ⟨vs, hrun, hv⟩ := run_buildSlice_raw (w := w) ht hrow ⟨hl, hc.2⟩ hcs
      refine ⟨.cells ⟨vs⟩ el (0, 0), .slice (some ⟨w.heap.size, 0, none⟩) n n, ?_, fun g' id hle hid => ⟨?_, ?_⟩⟩
      · simp only [execOp, e, Sem.run_bind, hrun, Result.andThen_ok, Sem.run_pure]
      · simp only [BR]; exact ⟨vs, heap_alloc_new' _ _, VRs.mono hle _ _ hv⟩
      · simp only [VR]; exact ⟨_, n, hid, rfl, Nat.le_refl _, rfl⟩
    · exact hok.elim
  · cases hq
inductive EOp where
  | store (n : Nat) (x v : Operand)
  | mapPut (kk : KeyK) (m k v : Operand)
  | append (e : TypeId) (sz bytes : Nat) (s x : Operand)
  | appendM (e : TypeId) (sz bytes : Nat) (s x : Operand)
  | mapEntry (kk : KeyK) (z : AVal) (m k : Operand)
  | entry (m s v : Operand)
  | clear (zs : List AVal) (x : Operand)
  | mark (x : Operand)
structure Re where
  ok : Prop
  v : AVal
  μ : AMem
def storeR (n : Nat) (μ : AMem) (x v : AVal) : Re :=
  match x with
  | .ptr id off => match μ.blks[id]? with
    | some (.cells bt cs) => ⟨(vcellsR v).ok ∧ (vcellsR v).cs.length = n ∧ off + n ≤ cs.length ∧ (vcellsR v).cs.all AVal.one = true, .any, { μ with blks := μ.blks.set id (.cells bt (setAt cs off (vcellsR v).cs)) }⟩
    | some (.row bt cs) => ⟨(vcellsR v).ok ∧ (vcellsR v).cs.length = n ∧ off + n ≤ cs.length ∧ (vcellsR v).cs.all AVal.one = true, .any, { μ with blks := μ.blks.set id (.row bt (setAt cs off (vcellsR v).cs)) }⟩
    | _ => ⟨False, .any, μ⟩
  | _ => ⟨False, .any, μ⟩
def mapPutR (kk : KeyK) (μ : AMem) (m k v : AVal) : Re :=
  match m, k with
  | .mp id, .lit k => match μ.blks[id]? with
    | some (.map kk' es) => ⟨kk' = kk ∧ keyFit kk k = true, .any, { μ with blks := μ.blks.set id (.map kk (mput k v es)) }⟩
    | _ => ⟨False, .any, μ⟩
  | _, _ => ⟨False, .any, μ⟩
def appendR (e : TypeId) (sz bytes : Nat) (μ : AMem) (s x : AVal) : Re :=
  match s with
  | .sl n cs tk => match asrc μ sz x with
    | some (m, ds) => ⟨cs.length = n * sz ∧ ds.length = m * sz ∧ (n + m) * bytes ≤ 140737488355328 ∧ CanApp e μ.lv tk ∧ ds.all AVal.one = true, .sl (n + m) (cs ++ ds) (.own μ.nx e), { μ with lv := μ.nx :: appLv μ.lv tk, nx := μ.nx + 1 }⟩
    | none => ⟨False, .any, μ⟩
  | _ => ⟨False, .any, μ⟩
/-- 'append', to a row of the abstract memory. -/
def appendMR (e : TypeId) (sz bytes : Nat) (μ : AMem) (s x : AVal) : Re :=
  match asrc μ sz s, asrc μ sz x with
  | some (n, cs), some (m, ds) =>
    if fullS s then
      if m = 0 then ⟨cs.length = n * sz ∧ ds.length = 0 ∧ n * bytes ≤ 140737488355328, s, μ⟩
      else ⟨cs.length = n * sz ∧ ds.length = m * sz ∧ (n + m) * bytes ≤ 140737488355328, .ms μ.blks.length 0 (n + m) .row, { μ with blks := μ.blks ++ [.row e (cs ++ ds)] }⟩
    else match s with
      | .ms id 0 n .row => match μ.blks[id]? with
        | some (.row e' rs) => ⟨e' = e ∧ rs.length = n * sz ∧ ds.length = m * sz ∧ (n + m) * bytes ≤ 140737488355328 ∧ ds.all AVal.one = true, .ms μ.blks.length 0 (n + m) .row, { μ with blks := μ.blks.set id .dead ++ [.row e (rs ++ ds)] }⟩
        | _ => ⟨False, .any, μ⟩
      | _ => ⟨False, .any, μ⟩
  | _, _ => ⟨False, .any, μ⟩
def mapEntryR (kk : KeyK) (z : AVal) (μ : AMem) (m k : AVal) : Re :=
  match m, k with
  | .mp id, .lit k => match μ.blks[id]? with
    | some (.map kk' es) => ⟨kk' = kk ∧ keyFit kk k = true, .tup [(mfind k es).getD z, .stp μ.nx], { μ with blks := μ.blks.set id (.mapP kk (mput k ((mfind k es).getD z) es) k μ.nx), nx := μ.nx + 1 }⟩
    | _ => ⟨False, .any, μ⟩
  | _, _ => ⟨False, .any, μ⟩
def entryR (μ : AMem) (m s v : AVal) : Re :=
  match m, s with
  | .mp id, .stp s => match μ.blks[id]? with
    | some (.mapP kk es k s') => ⟨s' = s, .any, { μ with blks := μ.blks.set id (.map kk (mput k v es)) }⟩
    | _ => ⟨False, .any, μ⟩
  | _, _ => ⟨False, .any, μ⟩
def clearR (zs : List AVal) (μ : AMem) (x : AVal) : Re :=
  match x with
  | .sl 0 _ _ => ⟨True, .tup [], μ⟩
  | .ms id off n _ => match μ.blks[id]? with
    | some (.cells bt cs) => ⟨0 < n ∧ off + (zeros n zs).length ≤ cs.length ∧ (zeros n zs).all AVal.one = true, .tup [], { μ with blks := μ.blks.set id (.cells bt (setAt cs off (zeros n zs))) }⟩
    | some (.row bt cs) => ⟨0 < n ∧ off + (zeros n zs).length ≤ cs.length ∧ (zeros n zs).all AVal.one = true, .tup [], { μ with blks := μ.blks.set id (.row bt (setAt cs off (zeros n zs))) }⟩
    | _ => ⟨False, .any, μ⟩
  | _ => ⟨False, .any, μ⟩
def markR (μ : AMem) (x : AVal) : Re :=
  match x with
  | .ms id 0 n .full => match μ.blks[id]? with
    | some (.cells _ cs) => ⟨cs.length = n, .sl n cs .full, { μ with blks := μ.blks.set id .dead }⟩
    | _ => ⟨False, .any, μ⟩
  | _ => ⟨False, .any, μ⟩
/-- A slice type of bytes. -/
def isBytes (P : Program) (t : TypeId) : Bool :=
  match P.underlying t with
  | some (.slice e) => match P.underlying e with
    | some (.int .u8) => true
    | _ => false
  | _ => false
theorem isBytes_spec {P : Program} {t : TypeId} (h : isBytes P t = true) : ∃ e, P.underlying t = some (.slice e) ∧ P.underlying e = some (.int .u8) := by
  unfold isBytes at h
  split at h
  · rename_i e hu
    split at h
    · exact ⟨e, hu, ‹_›⟩
    · cases h
  · cases h
def EOp.sem (o : EOp) (A : ATmps) (μ : AMem) : Re :=
  match o with
  | .store n x v => storeR n μ (aeval A x) (aeval A v)
  | .mapPut kk m k v => mapPutR kk μ (aeval A m) (aeval A k) (aeval A v)
  | .append e sz bytes s x => appendR e sz bytes μ (aeval A s) (aeval A x)
  | .appendM e sz bytes s x => appendMR e sz bytes μ (aeval A s) (aeval A x)
  | .mapEntry kk z m k => mapEntryR kk z μ (aeval A m) (aeval A k)
  | .entry m s v => entryR μ (aeval A m) (aeval A s) (aeval A v)
  | .clear zs x => clearR zs μ (aeval A x)
  | .mark x => markR μ (aeval A x)
def resE (P : Program) (mu : Bool) (o : Op) : Option EOp :=
  match o with
  | .store t x v => if (P.info? t).isSome = true then some (.store (P.cellsOf t) x v) else none
  | .mapUpdate t m k v | .insert t m k v => match mapInfo P t with
    | some (_, kk, _) => some (.mapPut kk m k v)
    | none => none
  | .call { callee := .builtin .append, args := ⟨[s, x]⟩, argTypes := ⟨[t, xT]⟩ } => match appInfo P t xT with
    | some (e, sz, bytes) => some (if mu then .appendM e sz bytes s x else .append e sz bytes s x)
    | none => none
  | .mapEntry t m k => match mapInfo P t with
    | some (_, kk, e) => (zeroA P e).map fun z => .mapEntry kk z m k
    | none => none
  | .entryStore _ m s v => some (.entry m s v)
  | .call { callee := .builtin .clear, args := ⟨[x]⟩, argTypes := ⟨[t]⟩ } => match rowOf P t with
    | some (.sl e _) => match zeroA P e with
      | some z => (vcells z).map fun zs => .clear zs x
      | none => none
    | _ => none
  | .convert s t x => if s = t then if isBytes P s = true then some (.mark x) else none else none
  | _ => none
/-- What an operation that changes memory comes to in the model. -/
def Eff (P : Program) (g : Gh) (μ : AMem) (w : World) (ρ : Operand → Value) (o : Oper) (v : AVal) (μ' : AMem) : Prop :=
  ∃ n cv w' g', (execOp ρ o).run P w = .ok n w' ∧ (n = .value cv ∨ (n = .skip ∧ cv = undef)) ∧ VR g' v cv ∧ Sim P g' w' μ' ∧ St g w μ g' w' μ'
theorem run_E {P : Program} {g : Gh} {w : World} {μ : AMem} (hs : Sim P g w μ) {N : Nat} {A : ATmps} {a : Act} (ht : TR N g A a) {o : Oper} {q : EOp} {mu : Bool} (hq : resE P mu o.op = some q) (hok : (q.sem A μ).ok) : Eff P g μ w a.eval o (q.sem A μ).v (q.sem A μ).μ := by
  have put : ∀ (t : TypeId) (m k v : Operand), (execOp a.eval o = (do Instr.mapUpdate t (a.eval m) (a.eval k) (a.eval v); pure .skip : Sem Next)) → (match mapInfo P t with
    | some (_, kk, _) => some (EOp.mapPut kk m k v)
    | none => none) = some q → Eff P g μ w a.eval o (q.sem A μ).v (q.sem A μ).μ := by
    intro t m k v he hq
    split at hq <;> cases hq
    rename_i kt kk et hm
    simp only [EOp.sem] at hok ⊢
    unfold mapPutR at hok ⊢
    split at hok
    · rename_i id kv hmv hkv
      split at hok
      · rename_i kk' es hes
        obtain ⟨rfl, hfit⟩ := hok
        obtain ⟨w', hr, r⟩ := run_aMapPut (P := P) (t := t) (k := .lit kv) (v := aeval A v) (x := .mp id) hs (by simp only [aMapPut, hm, hfit, if_true, hes]; rfl) (by have := ht.eval m; rw [hmv] at this; exact this) (by have := ht.eval k; rw [hkv] at this; exact this) (ht.eval v)
        refine ⟨.skip, undef, w', g, ?_, .inr ⟨rfl, rfl⟩, by simp [VR], r⟩
        rw [he]; simp only [Sem.run_bind, hr, Result.andThen_ok, Sem.run_pure]
      · exact hok.elim
    · exact hok.elim
  unfold resE at hq
  split at hq
  · rename_i t x v e
    split at hq <;> cases hq
    rename_i hi
    simp only [EOp.sem] at hok ⊢
    unfold storeR at hok ⊢
    split at hok
    · rename_i id off hx
      split at hok
      · rename_i bt cs hblk
        obtain ⟨h1, h2, h3, h4⟩ := hok
        obtain ⟨w', hr, r⟩ := run_aStore (P := P) (t := t) (x := .ptr id off) (v := aeval A v) hs (by simp only [aStore, vcellsR_ok h1, hblk]; rw [if_pos ⟨hi, h2, by rw [h2]; exact h3, h4⟩]) (by have := ht.eval x; rw [hx] at this; exact this) (ht.eval v)
        refine ⟨.skip, undef, w', g, ?_, .inr ⟨rfl, rfl⟩, by simp [VR], r⟩
        simp only [execOp, e, Sem.run_bind, hr, Result.andThen_ok, Sem.run_pure]
      · rename_i bt cs hblk
        obtain ⟨h1, h2, h3, h4⟩ := hok
        obtain ⟨w', hr, r⟩ := run_aStore (P := P) (t := t) (x := .ptr id off) (v := aeval A v) hs (by simp only [aStore, vcellsR_ok h1, hblk]; rw [if_pos ⟨hi, h2, by rw [h2]; exact h3, h4⟩]) (by have := ht.eval x; rw [hx] at this; exact this) (ht.eval v)
        refine ⟨.skip, undef, w', g, ?_, .inr ⟨rfl, rfl⟩, by simp [VR], r⟩
        simp only [execOp, e, Sem.run_bind, hr, Result.andThen_ok, Sem.run_pure]
      · exact hok.elim
    · exact hok.elim
  · rename_i t m k v e
    exact put t m k v (by simp only [execOp, e]) hq
  · rename_i t m k v e
    exact put t m k v (by simp only [execOp, e]) hq
  · rename_i s x t xT e
    split at hq <;> cases hq
    rename_i el sz bytes hi
    have hex : execOp a.eval o = (do pure (.value (← Builtin.append_ #[t, xT] o.type #[a.eval s, a.eval x])) : Sem Next) := by
      simp [execOp, e, resolve, invoke, builtin]
    have fin : ∀ {v : AVal} {μ' : AMem}, (∃ c w' g', (Builtin.append_ #[t, xT] o.type #[a.eval s, a.eval x]).run P w = .ok c w' ∧ VR g' v c ∧ Sim P g' w' μ' ∧ St g w μ g' w' μ') → Eff P g μ w a.eval o v μ' := by
      intro v μ' ⟨c, w', g', hr, r⟩
      refine ⟨.value c, c, w', g', ?_, .inl rfl, r⟩
      rw [hex]; simp only [Sem.run_bind, hr, Result.andThen_ok, Sem.run_pure]
    have ks := ht.eval s
    cases mu with
    | false =>
      simp only [Bool.false_eq_true, if_false] at hok ⊢
      simp only [EOp.sem] at hok ⊢
      unfold appendR at hok ⊢
      split at hok
      · rename_i n cs tk hsv
        split at hok
        · rename_i m ds hx
          obtain ⟨h1, h2, h3, h4, h5⟩ := hok
          rw [hsv] at ks
          exact fin (run_append (ty := o.type) hs hi ks hx (ht.eval x) h1 h2 h3 h4 h5)
        · exact hok.elim
      · exact hok.elim
    | true =>
      simp only [if_true] at hok ⊢
      simp only [EOp.sem] at hok ⊢
      unfold appendMR at hok ⊢
      split at hok
      · rename_i n cs m ds hsv hx
        split at hok
        · rename_i hfull
          rw [if_pos hfull]
          obtain ⟨A', hA⟩ := fullS_spec hs hfull hsv ks
          split at hok
          · rename_i hm
            rw [if_pos hm]
            subst hm
            obtain ⟨h1, h2, h3⟩ := hok
            obtain ⟨iz, z, d, hu, hux, hd, hinf, hz, hzs, hisz, hib, hsz0, hb0, hcell⟩ := appInfo_spec hi
            obtain ⟨hlen, news, hfirst, rnews⟩ := run_src hs hx (ht.eval x) (by simpa using h2)
            obtain rfl : news = [] := List.eq_nil_of_length_eq_zero (by rw [rnews.length, h2])
            have hrun := append_room (ty := o.type) (A := A') (n := n) (c := n) (m := 0) hu hux hd hinf hcell hlen hfirst (by omega)
            refine fin ⟨.slice A' n n, w, g, ?_, by rw [← hA]; exact ks, hs, .refl _ _ _⟩
            rw [hA, hrun]; cases A' <;> rfl
          · rename_i hm
            rw [if_neg hm]
            obtain ⟨h1, h2, h3⟩ := hok
            rw [hA] at ks
            have := run_appendM_new (ty := o.type) hs hi hsv ks hx (ht.eval x) h1 h2 h3 (by omega) none
            refine fin ?_
            rw [hA]; exact this
        · rename_i hfull
          rw [if_neg hfull]
          split at hok
          · rename_i id n' hsr
            split at hok
            · rename_i e' rs hblk
              obtain ⟨rfl, h1, h2, h3, h4⟩ := hok
              rw [hsr] at ks
              exact fin (run_appendM_row (ty := o.type) hs hi hblk ks hx (ht.eval x) h1 h2 h3 h4)
            · exact hok.elim
          · exact hok.elim
      · exact hok.elim
  · rename_i t m k e
    split at hq
    · rename_i kt kk et hm
      obtain ⟨z, hz, rfl⟩ := Option.map_eq_some_iff.1 hq
      have km := ht.eval m
      have kk' := ht.eval k
      simp only [EOp.sem] at hok ⊢
      unfold mapEntryR at hok ⊢
      split at hok
      · rename_i id kv hme hke
        rw [hme] at km
        rw [hke] at kk'
        simp only [VR] at km kk'
        obtain ⟨b, hb, hmb⟩ := km
        split at hok
        · rename_i kk2 es hes
          obtain ⟨rfl, hfit⟩ := hok
          obtain ⟨cv, w', g', hrun, hv, r⟩ := run_mapEntry hs hm hz hes hfit hb
          refine ⟨.value cv, cv, w', g', ?_, .inl rfl, hv, r⟩
          simp only [execOp, e, hmb, kk', Sem.run_bind, hrun, Result.andThen_ok, Sem.run_pure]
        · exact hok.elim
      · exact hok.elim
    · cases hq
  · cases hq
    rename_i t m st v e
    have km := ht.eval m
    have ks := ht.eval st
    simp only [EOp.sem] at hok ⊢
    unfold entryR at hok ⊢
    split at hok
    · rename_i id s' hme hse
      rw [hme] at km
      rw [hse] at ks
      have ks' := ks
      simp only [VR] at km
      obtain ⟨b, hb, hmb⟩ := km
      split at hok
      · rename_i kk es k s2 hes
        have hok : s2 = s' := hok
        subst hok
        obtain ⟨w', hrun, r⟩ := run_entryStore (t := t) hs hes hb (ht.eval v) ks'
        refine ⟨.skip, undef, w', g, ?_, .inr ⟨rfl, rfl⟩, by simp [VR], r⟩
        simp only [execOp, e, hmb, Sem.run_bind, hrun, Result.andThen_ok, Sem.run_pure]
      · exact hok.elim
    · exact hok.elim
  · rename_i x t e
    split at hq <;> try (cases hq; done)
    rename_i el sz hrow
    split at hq <;> try (cases hq; done)
    rename_i z hz
    obtain ⟨zs, hzs, rfl⟩ := Option.map_eq_some_iff.1 hq
    have hex : execOp a.eval o = (do pure (.value (← Builtin.clear_ #[t] o.type #[a.eval x])) : Sem Next) := by
      simp [execOp, e, resolve, invoke, builtin]
    have fin : ∀ {μ' : AMem}, (∃ w', (Builtin.clear_ #[t] o.type #[a.eval x]).run P w = .ok (.tuple #[]) w' ∧ Sim P g w' μ' ∧ St g w μ g w' μ') → Eff P g μ w a.eval o (.tup []) μ' := by
      intro μ' ⟨w', hr, r⟩
      refine ⟨.value (.tuple #[]), .tuple #[], w', g, ?_, .inl rfl, by simp only [VR]; exact ⟨[], rfl, by simp [VRs]⟩, r⟩
      rw [hex]; simp only [Sem.run_bind, hr, Result.andThen_ok, Sem.run_pure]
    have kx := ht.eval x
    simp only [EOp.sem] at hok ⊢
    unfold clearR at hok ⊢
    split at hok
    · rename_i cs tk hxe
      rw [hxe] at kx
      simp only [VR] at kx
      obtain ⟨A', c, hcx, _⟩ := kx
      obtain ⟨hu, _⟩ := rowOf_sl hrow
      refine fin ⟨w, ?_, hs, .refl _ _ _⟩
      rw [hcx]
      cases A' <;> simp [Builtin.clear_, run_underlying hu]
    · rename_i id off n tk hxe
      rw [hxe] at kx
      split at hok
      · rename_i bt cs hblk
        obtain ⟨h1, h2, h3⟩ := hok
        exact fin ((run_clear hs hrow hz hzs kx h1 h3).1 bt cs hblk h2)
      · rename_i bt cs hblk
        obtain ⟨h1, h2, h3⟩ := hok
        exact fin ((run_clear hs hrow hz hzs kx h1 h3).2 bt cs hblk h2)
      · exact hok.elim
    · exact hok.elim
  · rename_i s t x e
    split at hq <;> try (cases hq; done)
    rename_i hst
    subst hst
    split at hq <;> cases hq
    rename_i hb
    obtain ⟨el, hu, hu2⟩ := isBytes_spec hb
    have kx := ht.eval x
    simp only [EOp.sem] at hok ⊢
    unfold markR at hok ⊢
    split at hok
    · rename_i id n hxe
      rw [hxe] at kx
      split at hok
      · rename_i bt cs hblk
        obtain ⟨c, w', g', hr, hv, r⟩ := run_mark hs hu hu2 hblk hok kx
        refine ⟨.value c, c, w', g', ?_, .inl rfl, hv, r⟩
        simp only [execOp, e, Sem.run_bind, hr, Result.andThen_ok, Sem.run_pure]
      · exact hok.elim
    · exact hok.elim
  · cases hq
def EOp.closed : EOp → Prop
  | .mapEntry _ z _ _ => Clean 0 0 z
  | .clear zs _ => Cleans 0 0 zs
  | _ => True
end Go.Proofs.YtjleeecaebgblaaGreatDoor.AL
