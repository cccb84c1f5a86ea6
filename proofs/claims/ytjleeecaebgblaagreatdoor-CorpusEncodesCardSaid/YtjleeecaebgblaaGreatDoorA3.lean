/- Loads, stores, literals. -/
import Derived.Test.YtjleeecaebgblaaGreatDoorA1
import Derived.Test.YtjleeecaebgblaaGreatDoorA2
set_option linter.all false
namespace Go.Proofs.YtjleeecaebgblaaGreatDoor.AL
open Go.RowKit
/-- A bound, or what stands for it. -/
def bnd (A : ATmps) (o : Option Operand) (d : Nat) : Option Nat :=
  match o with
  | none => some d
  | some x => match aeval A x with
    | .lit (.int _ i) => if 0 ≤ i then some i.toNat else none
    | _ => none
/-- What is left of the right to append to a slice of a slice. -/
def cutTk (all : Bool) : Tk → Tk
  | .full => if all then .full else .no
  | _ => .no
theorem cutTk_spec (all : Bool) (tk : Tk) : cutTk all tk ≠ .row ∧ (∀ s e, cutTk all tk ≠ .own s e) ∧ (cutTk all tk = .full → tk = .full ∧ all = true) := by
  cases tk <;> cases all <;> simp [cutTk]
def aSlice (P : Program) (t : TypeId) (A : ATmps) (x : AVal) (lo hi mx : Option Operand) : Option AVal :=
  match rowOf P t, x with
  | some .str, .lit (.string s) => match bnd A lo 0, bnd A hi s.size, mx with
    | some l, some h, none => if l ≤ h ∧ h ≤ s.size then some (.lit (.string (s.extract l h))) else none
    | _, _, _ => none
  | some (.sl _ sz), .sl n cs tk => match bnd A lo 0, bnd A hi n, mx with
    | some l, some h, none => if l ≤ h ∧ h ≤ n then some (.sl (h - l) ((cs.drop (l * sz)).take ((h - l) * sz)) (match tk with | .full => if h = n then .full else .no | _ => .no)) else none
    | some l, some h, some m => match bnd A (some m) 0 with
      | some m => if l ≤ h ∧ h ≤ m ∧ m ≤ n ∧ hi.isSome then some (.sl (h - l) ((cs.drop (l * sz)).take ((h - l) * sz)) (if m = h then .full else .no)) else none
      | none => none
    | _, _, _ => none
  | some (.sl _ sz), .ms id off n tk => match bnd A lo 0, bnd A hi n, mx with
    | some l, some h, none => if l ≤ h ∧ h ≤ n then some (if l = h then .sl 0 [] .no else .ms id (off + l * sz) (h - l) (cutTk (decide (h = n)) tk)) else none
    | some l, some h, some m => match bnd A (some m) 0 with
      | some m => if l ≤ h ∧ h ≤ m ∧ m ≤ n ∧ hi.isSome then some (if l = h then .sl 0 [] (if m = h then .full else .no) else .ms id (off + l * sz) (h - l) (if m = h then .full else .no)) else none
      | none => none
    | _, _, _ => none
  | some (.arr n _ sz), .ptr id off => match bnd A lo 0, bnd A hi n, mx with
    | some l, some h, none => if l < h ∧ h ≤ n then some (.ms id (off + l * sz) (h - l) .no) else none
    | _, _, _ => none
  | _, _ => none
theorem run_bound {g : Gh} {N : Nat} {A : ATmps} {a : Act} (ht : TR N g A a) {x : Operand} {d k : Nat} (h : bnd A (some x) d = some k) : ∃ kk, a.eval x = .int kk (k : Int) := by
  unfold bnd at h
  simp only at h
  have := ht.eval x
  split at h
  · rename_i kk i he
    rw [he] at this
    simp only [VR] at this
    split at h
    · cases h
      exact ⟨kk, by rw [this, Int.toNat_of_nonneg ‹_›]⟩
    · cases h
  · cases h
theorem run_sliceBound (P : Program) (kk : IntKind) (k y : Nat) (c : BoundsCode) (h : k ≤ y) (w : World) : (Instr.sliceBound (.int kk k) y c).run P w = .ok k w := by
  simp [Instr.sliceBound, asIntOf]; omega
theorem addr_off (b o l m sz c : Nat) : (if c = l then (⟨b, o, none⟩ : Addr) else (⟨b, o, none⟩ : Addr).add (l * sz)) = (if c = l then ⟨b, o, none⟩ else ⟨b, o + l * sz, none⟩) := by rw [Addr.add_mid]
theorem run_aSlice {P : Program} {g : Gh} {N : Nat} {A : ATmps} {a : Act} (ht : TR N g A a) {t : TypeId} {x v : AVal} {lo hi mx : Option Operand} {cx : Value} (h : aSlice P t A x lo hi mx = some v) (k : VR g x cx) (w : World) :
    ∃ c, (Instr.sliceAt t cx (lo.map a.eval) (hi.map a.eval) (mx.map a.eval)).run P w = .ok c w ∧ VR g v c := by
  have lob : ∀ (isS : Bool) (len cap l q : Nat), bnd A lo 0 = some l → bnd A hi len = some q → l ≤ q → q ≤ cap → mx = none → len ≤ cap → (Instr.sliceBounds isS len cap (lo.map a.eval) (hi.map a.eval) (mx.map a.eval)).run P w = .ok (l, q, cap) w := by
    clear h
    intro isS len cap l q hl hh h1 h2 hm hlc
    subst hm
    cases hi with
    | none =>
      simp only [bnd] at hh; cases hh
      cases lo with
      | none => simp only [bnd] at hl; cases hl; simp [Instr.sliceBounds]
      | some xl => obtain ⟨kk, e⟩ := run_bound ht hl; simp [Instr.sliceBounds, e, run_sliceBound P kk l len _ h1]
    | some xh =>
      obtain ⟨kh, eh⟩ := run_bound ht hh
      cases lo with
      | none => simp only [bnd] at hl; cases hl; simp [Instr.sliceBounds, eh, run_sliceBound P kh q cap _ h2]
      | some xl => obtain ⟨kk, e⟩ := run_bound ht hl; simp [Instr.sliceBounds, e, eh, run_sliceBound P kh q cap _ h2, run_sliceBound P kk l q _ h1]
  unfold aSlice at h
  split at h
  · rename_i s hr
    have hu := rowOf_str hr
    simp only [VR] at k
    subst k
    split at h <;> try (cases h; done)
    rename_i l hh hl hhb
    split at h <;> cases h
    rename_i hc
    refine ⟨_, ?_, by simp only [VR]; rfl⟩
    have := lob false s.size s.size l hh hl hhb hc.1 hc.2 rfl (Nat.le_refl _)
    simp only [Option.map_none] at this
    simp [Instr.sliceAt, Instr.slice, run_underlying hu, this]
  · rename_i e sz n cs tk hr
    obtain ⟨hu, hsz, inf, hi'⟩ := rowOf_sl hr
    have hk := k
    simp only [VR] at k
    obtain ⟨A', c, rfl, hnc, htk, kk⟩ := k
    have fin : ∀ (l h m : Nat) (tk' : Tk), l ≤ h → h ≤ n → h ≤ m → TkR g (h - l) (((cs.drop (l * sz)).take ((h - l) * sz))).length (if m = l then A' else A'.map (·.add (l * sz))) (m - l) tk' →
        VR g (.sl (h - l) ((cs.drop (l * sz)).take ((h - l) * sz)) tk') (.slice (if m = l then A' else A'.map (·.add (l * sz))) (h - l) (m - l)) := by
      intro l h m tk' h1 h2 h3 ht'
      simp only [VR]
      refine ⟨_, _, rfl, by omega, ht', ?_⟩
      by_cases hml : m = l
      · left
        have : h - l = 0 := by omega
        rw [this]; exact ⟨rfl, by simp⟩
      · rw [if_neg hml]
        rcases kk with ⟨rfl, rfl⟩ | ⟨b, o, rfl, kk⟩
        · left; exact ⟨by omega, by simp⟩
        · right
          refine ⟨b, o + l * sz, by simp [Addr.add_mid], (kk.drop _).take _⟩
    split at h <;> try (cases h; done)
    · rename_i l hh hl hhb
      split at h <;> cases h
      rename_i hc
      have hb := lob true n c l hh hl hhb hc.1 (by omega) rfl hnc
      simp only [Option.map_none] at hb
      refine ⟨_, ?_, fin l hh c _ hc.1 hc.2 (by omega) ?_⟩
      · subst hsz
        simp [Instr.sliceAt, Instr.slice, run_underlying hu, hb, run_sizeOf' hi']
      · cases tk with
        | no => trivial
        | own s e => trivial
        | row => trivial
        | full =>
          simp only [TkR] at htk
          simp only
          by_cases hq : hh = n
          · rw [if_pos hq]; simp only [TkR]; omega
          · rw [if_neg hq]; trivial
    · rename_i l hh xm hl hhb
      split at h <;> try (cases h; done)
      rename_i m hm
      split at h <;> cases h
      rename_i hc
      obtain ⟨km, em⟩ := run_bound ht hm
      cases hi with
      | none => simp at hc
      | some xh =>
        obtain ⟨kh, eh⟩ := run_bound ht hhb
        have hb : (Instr.sliceBounds true n c (lo.map a.eval) (some (a.eval xh)) (some (a.eval xm))).run P w = .ok (l, hh, m) w := by
          cases lo with
          | none => simp only [bnd] at hl; cases hl; simp [Instr.sliceBounds, eh, em, run_sliceBound P km m c _ (by omega), run_sliceBound P kh hh m _ hc.2.1]
          | some xl => obtain ⟨kk', e'⟩ := run_bound ht hl; simp [Instr.sliceBounds, e', eh, em, run_sliceBound P km m c _ (by omega), run_sliceBound P kh hh m _ hc.2.1, run_sliceBound P kk' l hh _ hc.1]
        refine ⟨_, ?_, fin l hh m _ hc.1 (by omega) hc.2.1 ?_⟩
        · subst hsz
          simp [Instr.sliceAt, Instr.slice, run_underlying hu, hb, run_sizeOf' hi']
        · by_cases hq : m = hh
          · rw [if_pos hq]; simp only [TkR]; omega
          · rw [if_neg hq]; trivial
  · rename_i e sz id off n tk hr
    obtain ⟨hu, hsz, inf, hi'⟩ := rowOf_sl hr
    simp only [VR] at k
    obtain ⟨b, c, e1, rfl, hnc, htk⟩ := k
    have fin : ∀ (l h m : Nat) (tk' : Tk), l ≤ h → h ≤ m → (tk' = .full → m = h) → tk' ≠ .row → (∀ s e, tk' ≠ .own s e) →
        VR g (if l = h then .sl 0 [] tk' else .ms id (off + l * sz) (h - l) tk') (.slice (if m = l then some ⟨b, off, none⟩ else (some ⟨b, off, none⟩ : Option Addr).map (·.add (l * sz))) (h - l) (m - l)) := by
      intro l h m tk' h1 h2 h3 h4 h5
      by_cases hlh : l = h
      · rw [if_pos hlh]
        subst hlh
        simp only [VR]
        refine ⟨_, m - l, by rw [Nat.sub_self], Nat.zero_le _, ?_, .inl (by simp)⟩
        cases tk' with
        | no => trivial
        | full => simp only [TkR]; have := h3 rfl; omega
        | row => exact absurd rfl h4
        | own s e => exact absurd rfl (h5 s e)
      · rw [if_neg hlh, if_neg (by omega)]
        simp only [VR]
        refine ⟨b, m - l, e1, by simp [Addr.add_mid], by omega, ?_⟩
        cases tk' with
        | no => trivial
        | full => simp only [TkM]; have := h3 rfl; omega
        | row => exact absurd rfl h4
        | own s e => trivial
    split at h <;> try (cases h; done)
    · rename_i l hh hl hhb
      split at h <;> cases h
      rename_i hc
      have hb := lob true n c l hh hl hhb hc.1 (by omega) rfl hnc
      simp only [Option.map_none] at hb
      refine ⟨.slice (if c = l then some ⟨b, off, none⟩ else (some ⟨b, off, none⟩ : Option Addr).map (·.add (l * sz))) (hh - l) (c - l), ?_, ?_⟩
      · subst hsz
        simp [Instr.sliceAt, Instr.slice, run_underlying hu, hb, run_sizeOf' hi']
      · by_cases hlh : l = hh
        · have := fin l hh c .no hc.1 (by omega) (by simp) (by simp) (by simp)
          rw [if_pos hlh] at this ⊢; exact this
        · obtain ⟨t1, t2, t3⟩ := cutTk_spec (decide (hh = n)) tk
          have := fin l hh c (cutTk (decide (hh = n)) tk) hc.1 (by omega) (fun e => by
            obtain ⟨e1, e2⟩ := t3 e
            subst e1
            simp only [TkM] at htk
            simp at e2
            omega) t1 t2
          rw [if_neg hlh] at this ⊢; exact this
    · rename_i l hh xm hl hhb
      split at h <;> try (cases h; done)
      rename_i m hm
      split at h <;> cases h
      rename_i hc
      obtain ⟨km, em⟩ := run_bound ht hm
      cases hi with
      | none => simp at hc
      | some xh =>
        obtain ⟨kh, eh⟩ := run_bound ht hhb
        have hb : (Instr.sliceBounds true n c (lo.map a.eval) (some (a.eval xh)) (some (a.eval xm))).run P w = .ok (l, hh, m) w := by
          cases lo with
          | none => simp only [bnd] at hl; cases hl; simp [Instr.sliceBounds, eh, em, run_sliceBound P km m c _ (by omega), run_sliceBound P kh hh m _ hc.2.1]
          | some xl => obtain ⟨kk', e'⟩ := run_bound ht hl; simp [Instr.sliceBounds, e', eh, em, run_sliceBound P km m c _ (by omega), run_sliceBound P kh hh m _ hc.2.1, run_sliceBound P kk' l hh _ hc.1]
        refine ⟨.slice (if m = l then some ⟨b, off, none⟩ else (some ⟨b, off, none⟩ : Option Addr).map (·.add (l * sz))) (hh - l) (m - l), ?_, ?_⟩
        · subst hsz
          simp [Instr.sliceAt, Instr.slice, run_underlying hu, hb, run_sizeOf' hi']
        · refine fin l hh m (if m = hh then .full else .no) hc.1 hc.2.1 ?_ ?_ ?_
          · intro e; split at e
            · assumption
            · cases e
          · split <;> simp
          · intro s e'; split <;> simp
  · rename_i n e sz id off hr
    obtain ⟨hu, hsz, inf, hi'⟩ := rowOf_arr hr
    simp only [VR] at k
    obtain ⟨b, e1, rfl⟩ := k
    split at h <;> try (cases h; done)
    rename_i l hh hl hhb
    split at h <;> cases h
    rename_i hc
    have hb := lob false n n l hh hl hhb (by omega) (by omega) rfl (Nat.le_refl _)
    simp only [Option.map_none] at hb
    refine ⟨.slice (some ⟨b, off + l * sz, none⟩) (hh - l) (n - l), ?_, by simp only [VR]; exact ⟨b, _, e1, rfl, by omega, trivial⟩⟩
    subst hsz
    have hne : ¬ n = l := by omega
    simp [Instr.sliceAt, run_underlying hu, hb, run_sizeOf' hi', hne, Addr.add_mid, Instr.sureAddr]
  · cases h
/-! ### tuples, interfaces -/
def aExtract (x : AVal) (i : Nat) : Option AVal :=
  match x with
  | .tup cs => cs[i]?
  | _ => none
theorem run_aExtract {P : Program} {g : Gh} {x v : AVal} {i : Nat} {cx : Value} (h : aExtract x i = some v) (k : VR g x cx) (w : World) : ∃ c, (Instr.extract cx i).run P w = .ok c w ∧ VR g v c := by
  unfold aExtract at h
  split at h
  · simp only [VR] at k
    obtain ⟨vs, rfl, k⟩ := k
    obtain ⟨c, e, r⟩ := k.get i v h
    exact ⟨c, by simp [Instr.extract, e], r⟩
  · cases h
def isIface (P : Program) (t : TypeId) : Option Bool :=
  match P.underlying t with
  | some (.interface _) => some true
  | some _ => some false
  | none => none
def aIface (P : Program) (t : TypeId) (x : AVal) : Option AVal :=
  match isIface P t with
  | some false => some (.ifc t x)
  | _ => none
theorem run_aIface {P : Program} {g : Gh} {t : TypeId} {x v : AVal} {cx : Value} (h : aIface P t x = some v) (k : VR g x cx) (w : World) : ∃ c, (Instr.makeInterface t cx).run P w = .ok c w ∧ VR g v c := by
  unfold aIface at h
  split at h
  · rename_i hi
    cases h
    refine ⟨.iface t cx, ?_, by simp only [VR]; exact ⟨cx, rfl, k⟩⟩
    unfold isIface at hi
    split at hi <;> try (cases hi; done)
    rename_i d hd hu
    simp only [Instr.makeInterface, Sem.run_bind, run_underlying hu, Result.andThen_ok]
    all_goals (cases d <;> first | rfl | (exact absurd rfl (hd _)))
  · cases h
end Go.Proofs.YtjleeecaebgblaaGreatDoor.AL
namespace Go.Proofs.YtjleeecaebgblaaGreatDoor.AL
open Go.RowKit
def aAssert (P : Program) (x : AVal) (t : TypeId) (ok : Bool) : Option AVal :=
  match isIface P t, x, ok with
  | some false, .ifc u v, true => if u = t then some (.tup [v, .lit (.bool true)]) else
    match zeroA P t with
    | some z => some (.tup [z, .lit (.bool false)])
    | none => none
  | some false, .ifc u v, false => if u = t then some v else none
  | some false, .lit .nilIface, true => match zeroA P t with
    | some z => some (.tup [z, .lit (.bool false)])
    | none => none
  | _, _, _ => none
theorem VR_pair {g : Gh} {a b : AVal} {x y : Value} (h : VR g a x) (k : VR g b y) : VR g (.tup [a, b]) (.tuple #[x, y]) := by
  simp only [VR]
  exact ⟨[x, y], rfl, by simp only [VRs]; exact ⟨x, _, rfl, h, y, _, rfl, k, rfl⟩⟩
theorem isIface_false {P : Program} {t : TypeId} (h : isIface P t = some false) : ∃ d, P.underlying t = some d ∧ ∀ ms, d ≠ .interface ms := by
  unfold isIface at h
  split at h <;> try (cases h; done)
  rename_i d hd hu
  exact ⟨d, hu, fun ms e => by subst e; exact hd ms rfl⟩
theorem run_aAssert {P : Program} {g : Gh} {x v : AVal} {xt t : TypeId} {ok : Bool} {cx : Value} (h : aAssert P x t ok = some v) (k : VR g x cx) (w : World) : ∃ c, (Instr.typeAssert cx xt t ok).run P w = .ok c w ∧ VR g v c := by
  unfold aAssert at h
  split at h
  · rename_i u y hi
    obtain ⟨d, hu, hd⟩ := isIface_false hi
    simp only [VR] at k
    obtain ⟨c, rfl, k⟩ := k
    split at h
    · rename_i hut
      subst hut
      cases h
      refine ⟨.tuple #[c, .bool true], ?_, VR_pair k (by simp [VR])⟩
      simp only [Instr.typeAssert, Sem.run_bind, run_underlying hu, Result.andThen_ok]
      cases d <;> first | (exact absurd rfl (hd _)) | simp
    · rename_i hut
      split at h <;> cases h
      rename_i z hz
      obtain ⟨c', hc, rc⟩ := run_zero hz g
      refine ⟨.tuple #[c', .bool false], ?_, VR_pair rc (by simp [VR])⟩
      simp only [Instr.typeAssert, Sem.run_bind, run_underlying hu, Result.andThen_ok]
      cases d <;> first | (exact absurd rfl (hd _)) | simp [hut, hc]
  · rename_i u y hi
    obtain ⟨d, hu, hd⟩ := isIface_false hi
    simp only [VR] at k
    obtain ⟨c, rfl, k⟩ := k
    split at h <;> cases h
    rename_i hut
    subst hut
    refine ⟨c, ?_, k⟩
    simp only [Instr.typeAssert, Sem.run_bind, run_underlying hu, Result.andThen_ok]
    cases d <;> first | (exact absurd rfl (hd _)) | simp
  · rename_i hi
    obtain ⟨d, hu, hd⟩ := isIface_false hi
    simp only [VR] at k
    subst k
    split at h <;> cases h
    rename_i z hz
    obtain ⟨c', hc, rc⟩ := run_zero hz g
    refine ⟨.tuple #[c', .bool false], ?_, VR_pair rc (by simp [VR])⟩
    simp only [Instr.typeAssert, Sem.run_bind, run_underlying hu, Result.andThen_ok]
    cases d <;> first | (exact absurd rfl (hd _)) | simp [hc]
  · cases h
/-! ### len, max, min -/
inductive LenK where | sl | str | arr (n : Nat) | map
def lenK (P : Program) (t : TypeId) : Option LenK :=
  match P.underlying t with
  | some (.slice _) => some .sl
  | some .string => some .str
  | some (.array n _) => some (.arr n)
  | some (.map _ _) => some .map
  | _ => none
def aLen (P : Program) (t : TypeId) (μ : AMem) (x : AVal) : Option AVal :=
  match lenK P t, x with
  | some (.arr n), _ => some (.lit (.int .i64 n))
  | some .sl, .sl n _ _ => some (.lit (.int .i64 n))
  | some .sl, .ms _ _ n _ => some (.lit (.int .i64 n))
  | some .str, .lit (.string s) => some (.lit (.int .i64 s.size))
  | some .map, .mp id => match μ.blks[id]? with
    | some (.map _ es) => some (.lit (.int .i64 es.length))
    | _ => none
  | some .map, .lit (.map none) => some (.lit (.int .i64 0))
  | _, _ => none
theorem run_aLen {P : Program} {g : Gh} {w : World} {μ : AMem} (hs : Sim P g w μ) {t ty : TypeId} {x v : AVal} {cx : Value} (h : aLen P t μ x = some v) (k : VR g x cx) :
    ∃ c, (Builtin.len_ #[t] ty #[cx]).run P w = .ok c w ∧ VR g v c := by
  have hl : ∀ q, lenK P t = some q → ∃ d, P.underlying t = some d ∧ (match q, d with | .sl, .slice _ => True | .str, .string => True | .arr n, .array m _ => n = m | .map, .map _ _ => True | _, _ => False) := by
    intro q hq
    unfold lenK at hq
    split at hq <;> cases hq <;> exact ⟨_, ‹_›, by simp⟩
  unfold aLen at h
  split at h
  · rename_i n hq
    obtain ⟨d, hu, hd⟩ := hl _ hq
    cases h
    cases d <;> simp only at hd <;> try (cases hd; done)
    subst hd
    exact ⟨_, by simp [Builtin.len_, run_underlying hu, goInt]; rfl, by simp only [VR]⟩
  · rename_i n cs tk hq
    obtain ⟨d, hu, hd⟩ := hl _ hq
    cases h
    cases d <;> simp only at hd <;> try (cases hd; done)
    simp only [VR] at k
    obtain ⟨A, c, rfl, _⟩ := k
    exact ⟨_, by simp [Builtin.len_, run_underlying hu, goInt]; rfl, by simp only [VR]⟩
  · rename_i id off n tk hq
    obtain ⟨d, hu, hd⟩ := hl _ hq
    cases h
    cases d <;> simp only at hd <;> try (cases hd; done)
    simp only [VR] at k
    obtain ⟨A, c, _, rfl, _⟩ := k
    exact ⟨_, by simp [Builtin.len_, run_underlying hu, goInt]; rfl, by simp only [VR]⟩
  · rename_i s hq
    obtain ⟨d, hu, hd⟩ := hl _ hq
    cases h
    cases d <;> simp only at hd <;> try (cases hd; done)
    simp only [VR] at k
    subst k
    exact ⟨_, by simp [Builtin.len_, run_underlying hu, goInt]; rfl, by simp only [VR]⟩
  · rename_i id hq
    obtain ⟨d, hu, hd⟩ := hl _ hq
    split at h <;> cases h
    rename_i kk es hes
    cases d <;> simp only at hd <;> try (cases hd; done)
    simp only [VR] at k
    obtain ⟨b, hb, rfl⟩ := k
    have := hs.blk id b _ hb hes
    simp only [BR] at this
    obtain ⟨ms, clk, hh, hm, _⟩ := this
    have hml := MR.length hm
    exact ⟨.int .i64 es.length, by simp [Builtin.len_, run_underlying hu, goInt, getObj, Sem.run, hh, hml], by simp only [VR]⟩
  · rename_i hq
    obtain ⟨d, hu, hd⟩ := hl _ hq
    cases h
    cases d <;> simp only at hd <;> try (cases hd; done)
    simp only [VR] at k
    subst k
    exact ⟨_, by simp [Builtin.len_, run_underlying hu, goInt]; rfl, by simp only [VR]⟩
  · cases h
def intMax (x y : Int) : Int := if y > x then y else x
def intMin (x y : Int) : Int := if y < x then y else x
def aFoldR (f : Int → Int → Int) (k : IntKind) : Int → List AVal → Option AVal
  | x, [] => some (.lit (.int k x))
  | x, .lit (.int _ y) :: r => aFoldR f k (f x y) r
  | _, _ => none
def aFold (f : Int → Int → Int) : List AVal → Option AVal
  | .lit (.int k x) :: rest => aFoldR f k x rest
  | _ => none
theorem run_aFoldR {P : Program} {g : Gh} {f : Int → Int → Int} {m2 : Value → Value → Sem Value} (hm : ∀ k k' x y, m2 (.int k x) (.int k' y) = pure (.int k (f x y))) (w : World) (k : IntKind) {v : AVal} :
    ∀ (xs : List AVal) (x : Int) (cs : List Value), aFoldR f k x xs = some v → VRs g xs cs → ∃ c, (cs.foldlM m2 (.int k x)).run P w = .ok c w ∧ VR g v c
  | [], x, cs, h, r => by
    simp only [VRs] at r; subst r
    simp only [aFoldR] at h; cases h
    exact ⟨.int k x, by simp, by simp [VR]⟩
  | y :: xs, x, cs, h, r => by
    unfold aFoldR at h
    split at h <;> try (cases h; done)
    · rename_i e; cases e
    · rename_i e; cases e
      simp only [VRs, VR] at r
      obtain ⟨c, cs', rfl, rfl, r⟩ := r
      obtain ⟨c, hc, r⟩ := run_aFoldR hm w k xs _ cs' h r
      exact ⟨c, by simpa [List.foldlM_cons, hm] using hc, r⟩
theorem run_aMax {P : Program} {g : Gh} {ts : Array TypeId} {ty : TypeId} {xs : List AVal} {v : AVal} {cs : List Value} (h : aFold intMax xs = some v) (k : VRs g xs cs) (w : World) : ∃ c, (Builtin.max_ ts ty ⟨cs⟩).run P w = .ok c w ∧ VR g v c := by
  unfold aFold at h
  split at h <;> try (cases h; done)
  simp only [VRs, VR] at k
  obtain ⟨c, cs', rfl, rfl, k⟩ := k
  exact run_aFoldR (m2 := Builtin.max2) (fun _ _ _ _ => rfl) w _ _ _ _ h k
theorem run_aMin {P : Program} {g : Gh} {ts : Array TypeId} {ty : TypeId} {xs : List AVal} {v : AVal} {cs : List Value} (h : aFold intMin xs = some v) (k : VRs g xs cs) (w : World) : ∃ c, (Builtin.min_ ts ty ⟨cs⟩).run P w = .ok c w ∧ VR g v c := by
  unfold aFold at h
  split at h <;> try (cases h; done)
  simp only [VRs, VR] at k
  obtain ⟨c, cs', rfl, rfl, k⟩ := k
  exact run_aFoldR (m2 := Builtin.min2) (fun _ _ _ _ => rfl) w _ _ _ _ h k
/-! ### new memory -/
/-- The effect of an operation that makes or writes memory. -/
def aBox (t : TypeId) (μ : AMem) (x : AVal) : Option (AVal × AMem) :=
  (vcells x).map fun cs => (.ptr μ.blks.length 0, { μ with blks := μ.blks ++ [.cells t cs] })
theorem run_aBox {P : Program} {g : Gh} {w : World} {μ μ' : AMem} (hs : Sim P g w μ) {t : TypeId} {x v : AVal} {cx : Value} (h : aBox t μ x = some (v, μ')) (k : VR g x cx) :
    ∃ c w' g', (Instr.box t cx).run P w = .ok c w' ∧ VR g' v c ∧ Sim P g' w' μ' ∧ St g w μ g' w' μ' := by
  unfold aBox at h
  obtain ⟨cs, hc, he⟩ := Option.map_eq_some_iff.1 h
  cases he
  have hv := vcells_spec hc k
  have hle : g.le (g.name μ.blks.length w.heap.size) := Gh.le_name (hs.φ_new (Nat.le_refl _)) (hs.Cp_none (hs.φ_new (Nat.le_refl _)))
  have := Sim.alloc hs (.cells cx.cells t) (.cells t cs) none (by simp only [BR]; exact ⟨cx.cells.toList, heap_alloc_new' _ _, VRs.mono hle _ _ hv⟩) rfl
  refine ⟨.pointer (some ⟨w.heap.size, 0, none⟩), _, _, ?_, ?_, this.1, this.2⟩
  · simp [Instr.box, newVar, newRow, newObj, Sem.run, World.alloc_eq]
  · simp only [VR]; exact ⟨w.heap.size, by simp [Gh.name], rfl⟩
def aAlloc (P : Program) (t : TypeId) (μ : AMem) : Option (AVal × AMem) :=
  match zeroA P t with
  | some z => aBox t μ z
  | none => none
theorem run_aAlloc {P : Program} {g : Gh} {w : World} {μ μ' : AMem} (hs : Sim P g w μ) {t : TypeId} {v : AVal} (h : aAlloc P t μ = some (v, μ')) :
    ∃ c w' g', (Instr.alloc t true (.tuple #[])).run P w = .ok c w' ∧ VR g' v c ∧ Sim P g' w' μ' ∧ St g w μ g' w' μ' := by
  unfold aAlloc at h
  split at h
  · rename_i z hz
    obtain ⟨c0, hc0, r0⟩ := run_zero hz g
    obtain ⟨c, w', g', hr, r⟩ := run_aBox hs h r0
    refine ⟨c, w', g', ?_, r⟩
    simp only [Instr.box] at hr
    simp [Instr.alloc, hc0]
    simpa using hr
  · cases h
def aMakeMap (P : Program) (t : TypeId) (μ : AMem) : Option (AVal × AMem) :=
  match mapInfo P t with
  | some (_, kk, _) => some (.mp μ.blks.length, { μ with blks := μ.blks ++ [.map kk []] })
  | none => none
theorem run_aMakeMap {P : Program} {g : Gh} {w : World} {μ μ' : AMem} (hs : Sim P g w μ) {t : TypeId} {v : AVal} (h : aMakeMap P t μ = some (v, μ')) :
    ∃ c w' g', (Instr.makeMap t none).run P w = .ok c w' ∧ VR g' v c ∧ Sim P g' w' μ' ∧ St g w μ g' w' μ' := by
  unfold aMakeMap at h
  split at h <;> cases h
  have := Sim.alloc hs (.map #[] 0) (.map ‹KeyK› []) none (by simp only [BR]; exact ⟨[], 0, heap_alloc_new' _ _, by simp [MR], by simp, by simp, by simp⟩) rfl
  refine ⟨.map (some w.heap.size), _, _, ?_, ?_, this.1, this.2⟩
  · simp [Instr.makeMap, newObj, Sem.run, World.alloc_eq]
  · simp only [VR]; exact ⟨w.heap.size, by simp [Gh.name], rfl⟩
/-! ### literals -/
def setAt (cs : List AVal) (off : Nat) (vs : List AVal) : List AVal := cs.take off ++ vs ++ cs.drop (off + vs.length)
def aFill (place : Nat → Option (Nat × Nat)) : List AVal → List (Nat × AVal) → Option (List AVal)
  | cs, [] => some cs
  | cs, (i, v) :: rest => match place i, vcells v with
    | some (off, size), some vs => if vs.length = size ∧ off + vs.length ≤ cs.length then aFill place (setAt cs off vs) rest else none
    | _, _ => none
theorem foldl_set : ∀ (vs : List Value) (off j : Nat) (cs : Array Value), off + j + vs.length ≤ cs.size →
    ((vs.zipIdx j).foldl (fun (cs : Array Value) (c : Value × Nat) => cs.setIfInBounds (off + c.2) c.1) cs).toList = cs.toList.take (off + j) ++ vs ++ cs.toList.drop (off + j + vs.length)
  | [], off, j, cs, h => by simp
  | v :: vs, off, j, cs, h => by
    simp only [List.length_cons] at h
    rw [List.zipIdx_cons, List.foldl_cons, foldl_set vs off (j + 1) _ (by simp; omega)]
    have := list_seg_step cs.toList (off + j) v vs (by simp; omega)
    simp only [Array.toList_setIfInBounds, List.length_cons]
    rw [← this]
    simp only [Nat.add_assoc]
theorem fill_one (v : Value) (off : Nat) (cs : Array Value) (h : off + v.cells.size ≤ cs.size) :
    v.cells.zipIdx.foldl (fun (cs : Array Value) (x : Value × Nat) => cs.setIfInBounds (off + x.2) x.1) cs = ⟨cs.toList.take off ++ v.cells.toList ++ cs.toList.drop (off + v.cells.size)⟩ := by
  apply Array.ext'
  rw [← Array.foldl_toList, Array.toList_zipIdx]
  have := foldl_set v.cells.toList off 0 cs (by simpa using h)
  simpa using this
theorem run_aFill {g : Gh} {place : Nat → Option (Nat × Nat)} : ∀ (ps : List (Nat × AVal)) (qs : List (Nat × Value)) (cs : List AVal) (vs : List Value) (out : List AVal), ps.length = qs.length →
    (∀ (i : Nat) (p : Nat × AVal) (q : Nat × Value), ps[i]? = some p → qs[i]? = some q → q.1 = p.1 ∧ VR g p.2 q.2) → VRs g cs vs → aFill place cs ps = some out → ∃ us, Instr.fill place ⟨vs⟩ qs = some ⟨us⟩ ∧ VRs g out us
  | [], qs, cs, vs, out, hl, hr, hc, h => by
    obtain rfl : qs = [] := List.eq_nil_of_length_eq_zero (by simpa using hl.symm)
    simp only [aFill] at h; cases h
    exact ⟨vs, rfl, hc⟩
  | (i, a) :: ps, qs, cs, vs, out, hl, hr, hc, h => by
    cases qs with
    | nil => simp at hl
    | cons q qs =>
      obtain ⟨i', v⟩ := q
      obtain ⟨rfl, hv⟩ := hr 0 (i, a) (i', v) rfl rfl
      simp only [aFill] at h
      split at h <;> try (cases h; done)
      rename_i off size as hp ha
      split at h <;> try (cases h; done)
      rename_i hb
      have hvc := vcells_spec ha hv
      have hsz : v.cells.size = as.length := by have := hvc.length; simpa using this
      have hcl := hc.length
      have hfit : off + v.cells.size ≤ (⟨vs⟩ : Array Value).size := by simp; omega
      have hnew : VRs g (setAt cs off as) (vs.take off ++ v.cells.toList ++ vs.drop (off + v.cells.size)) := by
        unfold setAt
        rw [hsz]
        exact ((hc.take off).append hvc).append (hc.drop _)
      obtain ⟨us, hu, ru⟩ := run_aFill ps qs _ _ out (by simpa using hl) (fun k p q h1 h2 => hr (k + 1) p q (by simpa using h1) (by simpa using h2)) hnew h
      refine ⟨us, ?_, ru⟩
      have hn : ¬ ((decide (v.cells.size ≠ size) || decide (off + v.cells.size > (⟨vs⟩ : Array Value).size)) = true) := by simp at hfit ⊢; omega
      simp only [Instr.fill, hp]
      rw [if_neg hn, fill_one v off ⟨vs⟩ hfit]
      exact hu
def aParts (A : ATmps) (ps : Array (Nat × Operand)) : List (Nat × AVal) := ps.toList.map fun p => (p.1, aeval A p.2)
theorem parts_rel {g : Gh} {N : Nat} {A : ATmps} {a : Act} (ht : TR N g A a) (ps : Array (Nat × Operand)) :
    (aParts A ps).length = (ps.map fun (i, x) => (i, a.eval x)).toList.length ∧ ∀ (i : Nat) (p : Nat × AVal) (q : Nat × Value), (aParts A ps)[i]? = some p → (ps.map fun (i, x) => (i, a.eval x)).toList[i]? = some q → q.1 = p.1 ∧ VR g p.2 q.2 := by
  constructor
  · simp [aParts]
  · intro i p q h1 h2
    simp only [aParts, List.getElem?_map] at h1
    simp only [Array.toList_map, List.getElem?_map] at h2
    cases hx : ps.toList[i]? with
    | none => simp [hx] at h1
    | some x =>
      simp only [hx, Option.map_some, Option.some.injEq] at h1 h2
      subst h1; subst h2
      exact ⟨rfl, ht.eval _⟩
/-- Where the fields of a struct lie, how many cells they have; or the elements of an array. -/
def fieldPlaces (P : Program) : List Field → Option (List (Nat × Nat))
  | [] => some []
  | f :: fs => match P.info? f.type, fieldPlaces P fs with
    | some _, some l => some ((f.offset, P.cellsOf f.type) :: l)
    | _, _ => none
inductive Places where
  | struct (l : List (Nat × Nat))
  | row (sz : Nat)
def Places.get : Places → Nat → Option (Nat × Nat)
  | .struct l, i => l[i]?
  | .row sz, i => some (i * sz, sz)
def buildInfo (P : Program) (t : TypeId) : Option (Places × List AVal) :=
  match P.underlying t, zeroA P t with
  | some (.struct fs), some z => match fieldPlaces P fs.toList, vcells z with
    | some l, some cs => some (.struct l, cs)
    | _, _ => none
  | some (.array _ e), some z => match P.info? e, vcells z with
    | some _, some cs => some (.row (P.cellsOf e), cs)
    | _, _ => none
  | _, _ => none
theorem run_fieldPlaces {P : Program} (w : World) : ∀ (fs : List Field) (l : List (Nat × Nat)), fieldPlaces P fs = some l → (fs.mapM (fun f => do pure (f.offset, ← sizeOf f.type) : Field → Sem (Nat × Nat))).run P w = .ok l w
  | [], l, h => by simp only [fieldPlaces] at h; cases h; rfl
  | f :: fs, l, h => by
    simp only [fieldPlaces] at h
    split at h <;> cases h
    rename_i i l' hi hl
    have ih := run_fieldPlaces w fs l' hl
    simp only [List.mapM_cons, Sem.run_bind, run_sizeOf' hi, Result.andThen_ok, ih, Sem.run_pure]
def aBuild (P : Program) (t : TypeId) (ps : List (Nat × AVal)) : Option AVal :=
  match buildInfo P t with
  | some (pl, z) => match aFill pl.get z ps with
    | some cs => some (.agg cs)
    | none => none
  | none => none
theorem run_aBuild {P : Program} {g : Gh} {N : Nat} {A : ATmps} {a : Act} (ht : TR N g A a) {t : TypeId} {ps : Array (Nat × Operand)} {v : AVal} (h : aBuild P t (aParts A ps) = some v) (w : World) :
    ∃ c, (Instr.build t (ps.map fun (i, x) => (i, a.eval x))).run P w = .ok c w ∧ VR g v c := by
  obtain ⟨hl, hr⟩ := parts_rel ht ps
  unfold aBuild at h
  split at h <;> try (cases h; done)
  rename_i pl z hb
  split at h <;> cases h
  rename_i cs hf
  unfold buildInfo at hb
  split at hb <;> try (cases hb; done)
  · rename_i fs z0 hu hz
    split at hb <;> cases hb
    rename_i l hfp hvc
    obtain ⟨c0, hc0, r0⟩ := run_zero hz g
    obtain ⟨us, hfill, ru⟩ := run_aFill _ _ _ _ _ hl hr (vcells_spec hvc r0) hf
    refine ⟨.agg ⟨us⟩, ?_, by simp only [VR]; exact ⟨us, rfl, ru⟩⟩
    have hm : (fs.mapM (fun f => do pure (f.offset, ← sizeOf f.type) : Field → Sem (Nat × Nat))).run P w = .ok l.toArray w := by
      have := run_fieldPlaces w _ _ hfp
      rw [Array.mapM_eq_mapM_toList, Sem.run_map, this]
      rfl
    have hg : (fun i => (l.toArray)[i]?) = Places.get (.struct l) := by funext i; simp [Places.get]
    simp only [Instr.build, Sem.run_bind, hc0, run_underlying hu, Result.andThen_ok, hm]
    rw [hg, hfill]
    rfl
  · rename_i n e z0 hu hz
    split at hb <;> cases hb
    rename_i i hi hvc
    obtain ⟨c0, hc0, r0⟩ := run_zero hz g
    obtain ⟨us, hfill, ru⟩ := run_aFill _ _ _ _ _ hl hr (vcells_spec hvc r0) hf
    refine ⟨.agg ⟨us⟩, ?_, by simp only [VR]; exact ⟨us, rfl, ru⟩⟩
    have hg : (fun i => some (i * P.cellsOf e, P.cellsOf e)) = Places.get (.row (P.cellsOf e)) := by funext i; rfl
    simp only [Instr.build, Sem.run_bind, hc0, run_underlying hu, Result.andThen_ok, run_sizeOf' hi]
    rw [hg, hfill]
    rfl
end Go.Proofs.YtjleeecaebgblaaGreatDoor.AL
namespace Go.Proofs.YtjleeecaebgblaaGreatDoor.AL
open Go.RowKit
/-! ### a slice literal: all its elements, in order -/
def aSeq (sz : Nat) : Nat → List (Nat × AVal) → Option (List AVal)
  | _, [] => some []
  | i, (j, v) :: rest => match vcells v, aSeq sz (i + 1) rest with
    | some cs, some l => if j = i ∧ cs.length = sz then some (cs ++ l) else none
    | _, _ => none
theorem fill_seq (sz : Nat) : ∀ (qs : List (Nat × Value)) (i : Nat) (vs : List Value), (∀ (k : Nat) (q : Nat × Value), qs[k]? = some q → q.1 = i + k ∧ q.2.cells.size = sz) → (i + qs.length) * sz ≤ vs.length →
    Instr.fill (fun i => some (i * sz, sz)) ⟨vs⟩ qs = some ⟨vs.take (i * sz) ++ qs.flatMap (fun q => q.2.cells.toList) ++ vs.drop ((i + qs.length) * sz)⟩
  | [], i, vs, h, hl => by simp [Instr.fill]
  | q :: qs, i, vs, h, hl => by
    obtain ⟨j, v⟩ := q
    obtain ⟨e, hs⟩ := h 0 (j, v) rfl
    simp only [Nat.add_zero] at e hs
    subst e
    simp only [List.length_cons] at hl
    have hle : j * sz + sz ≤ vs.length := by
      have : (j + 1) * sz ≤ (j + (qs.length + 1)) * sz := Nat.mul_le_mul_right _ (by omega)
      rw [Nat.add_mul, Nat.one_mul] at this; omega
    have hn : ¬ ((decide (v.cells.size ≠ sz) || decide (j * sz + v.cells.size > (⟨vs⟩ : Array Value).size)) = true) := by simp; omega
    simp only [Instr.fill]
    rw [if_neg hn, fill_one v (j * sz) ⟨vs⟩ (by simp; omega)]
    have hlen : (vs.take (j * sz) ++ v.cells.toList ++ vs.drop (j * sz + v.cells.size)).length = vs.length := by simp; omega
    have ih := fill_seq sz qs (j + 1) (vs.take (j * sz) ++ v.cells.toList ++ vs.drop (j * sz + v.cells.size)) (fun k q hq => by have := h (k + 1) q (by simpa using hq); omega) (by rw [hlen]; rw [show j + 1 + qs.length = j + (qs.length + 1) by omega]; exact hl)
    rw [ih]
    have e1 : (j + 1) * sz = j * sz + sz := by rw [Nat.add_mul, Nat.one_mul]
    have ht : (vs.take (j * sz) ++ v.cells.toList ++ vs.drop (j * sz + v.cells.size)).take ((j + 1) * sz) = vs.take (j * sz) ++ v.cells.toList := by
      have : (vs.take (j * sz) ++ v.cells.toList).length = (j + 1) * sz := by simp; omega
      rw [← this, List.take_left]
    have hd : (vs.take (j * sz) ++ v.cells.toList ++ vs.drop (j * sz + v.cells.size)).drop ((j + 1 + qs.length) * sz) = vs.drop ((j + (qs.length + 1)) * sz) := by
      have hl1 : (vs.take (j * sz) ++ v.cells.toList).length = (j + 1) * sz := by simp; omega
      have e2 : (j + 1 + qs.length) * sz = (vs.take (j * sz) ++ v.cells.toList).length + qs.length * sz := by rw [hl1, Nat.add_mul]
      rw [e2, List.drop_append, List.drop_drop, List.drop_eq_nil_of_le (by omega), List.nil_append]
      congr 1
      rw [hs, show j + (qs.length + 1) = j + 1 + qs.length by omega, Nat.add_mul (j + 1), e1]
      omega
    rw [ht, hd]
    simp
theorem aSeq_spec {g : Gh} (sz : Nat) : ∀ (ps : List (Nat × AVal)) (qs : List (Nat × Value)) (i : Nat) (cs : List AVal), ps.length = qs.length → (∀ (k : Nat) (p : Nat × AVal) (q : Nat × Value), ps[k]? = some p → qs[k]? = some q → q.1 = p.1 ∧ VR g p.2 q.2) → aSeq sz i ps = some cs →
    (∀ (k : Nat) (q : Nat × Value), qs[k]? = some q → q.1 = i + k ∧ q.2.cells.size = sz) ∧ VRs g cs (qs.flatMap (fun q => q.2.cells.toList)) ∧ cs.length = ps.length * sz
  | [], qs, i, cs, hl, hr, h => by
    obtain rfl : qs = [] := List.eq_nil_of_length_eq_zero (by simpa using hl.symm)
    simp only [aSeq] at h; cases h
    exact ⟨by simp, by simp [VRs], by simp⟩
  | (j, v) :: ps, qs, i, cs, hl, hr, h => by
    cases qs with
    | nil => simp at hl
    | cons q qs =>
      obtain ⟨j', c⟩ := q
      obtain ⟨rfl, hv⟩ := hr 0 _ _ rfl rfl
      simp only [aSeq] at h
      split at h <;> try (cases h; done)
      rename_i as l ha hs
      split at h <;> cases h
      rename_i hc
      obtain ⟨h1, h2, h3⟩ := aSeq_spec sz ps qs (i + 1) l (by simpa using hl) (fun k p q e1 e2 => hr (k + 1) p q (by simpa using e1) (by simpa using e2)) hs
      have hvc := vcells_spec ha hv
      have hsz : c.cells.size = as.length := by have := hvc.length; simpa using this
      refine ⟨fun k q hq => ?_, ?_, ?_⟩
      · cases k with
        | zero => simp at hq; subst hq; exact ⟨hc.1, by show c.cells.size = sz; omega⟩
        | succ k => simp at hq; have := h1 k q hq; omega
      · simp only [List.flatMap_cons]; exact hvc.append h2
      · simp only [List.length_append, List.length_cons, h3, hc.2, Nat.add_mul]; omega
def aBuildSlice (P : Program) (t : TypeId) (n : Nat) (ps : List (Nat × AVal)) : Option AVal :=
  match rowOf P t with
  | some (.sl e sz) => if ps.length = n ∧ n * sz ≤ 16777216 ∧ ((zeroA P e).isSome = true ∨ n = 0) then
      match aSeq sz 0 ps with
      | some cs => some (.sl n cs .full)
      | none => none
    else none
  | _ => none
theorem run_buildSlice_raw {P : Program} {g : Gh} {w : World} {N : Nat} {A : ATmps} {a : Act} (ht : TR N g A a) {t e : TypeId} {n sz : Nat} {ps : Array (Nat × Operand)} {cs : List AVal} (hrow : rowOf P t = some (.sl e sz))
    (hc : (aParts A ps).length = n ∧ n * sz ≤ 16777216 ∧ ((zeroA P e).isSome = true ∨ n = 0)) (hseq : aSeq sz 0 (aParts A ps) = some cs) :
    ∃ vs, (Instr.buildSlice t n (ps.map fun (i, x) => (i, a.eval x))).run P w = .ok (.slice (some ⟨w.heap.size, 0, none⟩) n n) (w.alloc (.cells ⟨vs⟩ e (0, 0))) ∧ VRs g cs vs := by
  obtain ⟨hl, hr⟩ := parts_rel ht ps
  obtain ⟨hu, hsz, inf, hi⟩ := rowOf_sl hrow
  obtain ⟨h1, h2, h3⟩ := aSeq_spec sz _ _ 0 cs hl hr hseq
  generalize hq : (ps.map fun (i, x) => (i, a.eval x)).toList = qs at h1 h2 hl
  have hql : qs.length = n := by rw [← hl]; exact hc.1
  have hfill : ∀ vs : List Value, vs.length = n * sz → Instr.fill (fun i => some (i * sz, sz)) ⟨vs⟩ qs = some ⟨qs.flatMap (fun q => q.2.cells.toList)⟩ := by
    intro vs hvs
    rw [fill_seq sz qs 0 vs h1 (by rw [hvs, Nat.zero_add, hql]; exact Nat.le_refl _)]
    simp [hql, hvs]
  have hz : ∃ z : Array Value, (∀ w, (if n * sz = 0 then (pure #[] : Sem (Array Value)) else do pure (← zeroValue e).cells).run P w = .ok z w) := by
    by_cases h0 : n * sz = 0
    · exact ⟨#[], fun w => by rw [if_pos h0]; rfl⟩
    · rcases hc.2.2 with hz | hz
      · obtain ⟨z, hz⟩ := Option.isSome_iff_exists.1 hz
        obtain ⟨c0, hc0, _⟩ := run_zero hz g
        exact ⟨c0.cells, fun w => by rw [if_neg h0]; simp [hc0]⟩
      · exact absurd (by rw [hz, Nat.zero_mul]) h0
  obtain ⟨z, hz⟩ := hz
  refine ⟨qs.flatMap (fun q => q.2.cells.toList), ?_, h2⟩
  · subst hsz
    have hlim : ¬ n * P.cellsOf e > 2 ^ 24 := by have := hc.2.1; omega
    have hz' := hz w
    have hf := hfill ((List.range (n * P.cellsOf e)).map (fun i => z[i % z.size]!)) (by simp)
    have harr : (Array.range (n * P.cellsOf e)).map (fun i => z[i % z.size]!) = ⟨(List.range (n * P.cellsOf e)).map (fun i => z[i % z.size]!)⟩ := by
      apply Array.ext'; simp
    have hq' : (Array.map (fun x => (x.fst, a.eval x.snd)) ps).toList = qs := hq
    simp only [Instr.buildSlice, Sem.run_bind, run_underlying hu, Result.andThen_ok, run_sizeOf' hi, if_neg hlim]
    rw [hq']
    by_cases h0 : n * P.cellsOf e = 0
    · rw [if_pos h0] at hz'
      rw [if_pos h0]
      have e0 : z = #[] := by
        have := hz'; simp only [Sem.run_pure] at this; injection this with a b; exact a.symm
      subst e0
      simp only [Sem.run_bind, Sem.run_pure, Result.andThen_ok]
      rw [harr, hf]
      rfl
    · rw [if_neg h0] at hz'
      rw [if_neg h0]
      simp only [Sem.run_bind] at hz' ⊢
      cases hzz : (zeroValue e).run P w with
      | ok c0 w0 =>
        rw [hzz] at hz'
        simp only [Result.andThen_ok, Sem.run_pure] at hz'
        injection hz' with a1 a2
        subst a1; subst a2
        simp only [Result.andThen_ok, Sem.run_pure]
        rw [harr, hf]
        rfl
      | _ => rw [hzz] at hz'; cases hz'
theorem run_aBuildSlice {P : Program} {g : Gh} {w : World} {μ : AMem} (hs : Sim P g w μ) {N : Nat} {A : ATmps} {a : Act} (ht : TR N g A a) {t : TypeId} {n : Nat} {ps : Array (Nat × Operand)} {v : AVal} (h : aBuildSlice P t n (aParts A ps) = some v) :
    ∃ c w' g', (Instr.buildSlice t n (ps.map fun (i, x) => (i, a.eval x))).run P w = .ok c w' ∧ VR g' v c ∧ Sim P g' w' μ ∧ St g w μ g' w' μ := by
  unfold aBuildSlice at h
  split at h <;> try (cases h; done)
  rename_i e sz hrow
  split at h <;> try (cases h; done)
  rename_i hc
  split at h <;> cases h
  rename_i cs hseq
  obtain ⟨vs, hrun, hv⟩ := run_buildSlice_raw (w := w) ht hrow hc hseq
  have hst := Sim.fix hs vs e (0, 0)
  refine ⟨.slice (some ⟨w.heap.size, 0, none⟩) n n, _, _, hrun, ?_, hst.1, hst.2⟩
  simp only [VR]
  exact ⟨_, n, rfl, Nat.le_refl _, rfl, .inr ⟨w.heap.size, 0, rfl, VC_fix (hv.mono hst.2.le)⟩⟩
/-! ### a store -/
def aStore (P : Program) (t : TypeId) (μ : AMem) (x v : AVal) : Option AMem :=
  match x, vcells v with
  | .ptr id off, some vs => match μ.blks[id]? with
    | some (.cells bt cs) => if (P.info? t).isSome = true ∧ vs.length = P.cellsOf t ∧ off + vs.length ≤ cs.length ∧ vs.all AVal.one = true then some { μ with blks := μ.blks.set id (.cells bt (setAt cs off vs)) } else none
    | some (.row bt cs) => if (P.info? t).isSome = true ∧ vs.length = P.cellsOf t ∧ off + vs.length ≤ cs.length ∧ vs.all AVal.one = true then some { μ with blks := μ.blks.set id (.row bt (setAt cs off vs)) } else none
    | _ => none
  | _, _ => none
theorem run_aStore {P : Program} {g : Gh} {w : World} {μ μ' : AMem} (hs : Sim P g w μ) {t : TypeId} {x v : AVal} {cx cv : Value} (h : aStore P t μ x v = some μ') (kx : VR g x cx) (kv : VR g v cv) :
    ∃ w', (Instr.storeAt t cx cv).run P w = .ok () w' ∧ Sim P g w' μ' ∧ St g w μ g w' μ' := by
  unfold aStore at h
  split at h <;> try (cases h; done)
  rename_i id off vs hv
  simp only [VR] at kx
  obtain ⟨b, hb, rfl⟩ := kx
  have gen : ∀ (us sp : List Value) (bt : TypeId) (cs : List AVal), w.heap[b]? = some (.cells ⟨us ++ sp⟩ bt (0, 0)) → VRs g cs us → (P.info? t).isSome = true ∧ vs.length = P.cellsOf t ∧ off + vs.length ≤ cs.length ∧ vs.all AVal.one = true →
      ∃ us', (Instr.storeAt t (.pointer (some ⟨b, off, none⟩)) cv).run P w = .ok () (w.setRow b (us' ++ sp).toArray) ∧ VRs g (setAt cs off vs) us' ∧ us'.length = us.length := by
    intro us sp bt cs hh hr hc
    obtain ⟨inf, hi⟩ := Option.isSome_iff_exists.1 hc.1
    have hvc := vcells_spec hv kv
    have hone := all_one hc.2.2.2 hvc
    have hsz : cv.cells.toList.length = vs.length := hvc.length
    have hul := hr.length
    have hst := run_storeCells_at (P := P) b off bt cv.cells.toList 0 ⟨us ++ sp⟩ w hh (by simp at hsz ⊢; omega) hone
    rw [Nat.add_zero] at hst
    refine ⟨us.take off ++ cv.cells.toList ++ us.drop (off + cv.cells.toList.length), ?_, ?_, by simp at hsz ⊢; omega⟩
    · have : cv.cells.size = P.cellsOf t := by have := hc.2.1; simp at hsz; omega
      simp only [Instr.storeAt, Instr.sureAddr, Sem.run_bind, Sem.run_pure, Result.andThen_ok, storeVar, run_sizeOf' hi]
      rw [if_neg (by simpa using this)]
      rw [hst]
      congr 3
      have h1 : (us ++ sp).take off = us.take off := List.take_append_of_le_length (by omega)
      have h2 : (us ++ sp).drop (off + cv.cells.toList.length) = us.drop (off + cv.cells.toList.length) ++ sp := List.drop_append_of_le_length (by omega)
      simp only [h1, h2, List.append_assoc]
    · unfold setAt
      rw [hsz]
      exact ((hr.take off).append hvc).append (hr.drop _)
  split at h <;> try (cases h; done)
  · rename_i bt cs hblk
    split at h <;> cases h
    rename_i hc
    have hbr := hs.blk id b _ hb hblk
    simp only [BR] at hbr
    obtain ⟨us, hh, hr⟩ := hbr
    obtain ⟨us', hrun, hvr, _⟩ := gen us [] bt cs (by simpa using hh) hr hc
    refine ⟨_, hrun, Sim.write hs hb hblk rfl rfl rfl rfl (by simp) (fun c hcb => setRow_other w b c _ hcb) ?_⟩
    simp only [BR]
    exact ⟨us', by rw [setRow_heap w b ⟨us⟩ _ bt (0, 0) hh]; simp, hvr⟩
  · rename_i bt cs hblk
    split at h <;> cases h
    rename_i hc
    have hbr := hs.blk id b _ hb hblk
    simp only [BR] at hbr
    obtain ⟨us, sp, c, hh, hr, hcp, hlen⟩ := hbr
    obtain ⟨us', hrun, hvr, hl'⟩ := gen us sp bt cs hh hr hc
    refine ⟨_, hrun, Sim.write hs hb hblk rfl rfl rfl rfl (by simp) (fun c hcb => setRow_other w b c _ hcb) ?_⟩
    simp only [BR]
    exact ⟨us', sp, c, by rw [setRow_heap w b ⟨us ++ sp⟩ _ bt (0, 0) hh], hvr, hcp, by simp at hlen ⊢; omega⟩
/-! ### make, []byte(s) -/
def zeros (n : Nat) (zs : List AVal) : List AVal := (List.replicate n zs).flatten
theorem zeros_spec {g : Gh} {zs : List AVal} {z : Array Value} (h : VRs g zs z.toList) (n : Nat) : VRs g (zeros n zs) ((List.range (n * zs.length)).map (fun i => z[i % z.size]!)) := by
  have hl := h.length
  have hzl : (zeros n zs).length = n * zs.length := by simp [zeros]
  refine VRs.of (by simp [hzl]) fun i a v h1 h2 => ?_
  have hi : i < n * zs.length := by rw [← hzl]; exact (List.getElem?_eq_some_iff.1 h1).1
  have hpos : 0 < zs.length := by
    rcases Nat.eq_zero_or_pos zs.length with h0 | h0
    · rw [h0] at hi; omega
    · exact h0
  have hm : i % zs.length < zs.length := Nat.mod_lt _ hpos
  have e1 : (zeros n zs)[i]? = zs[i % zs.length]? := by
    clear h1 h2 hzl
    induction n generalizing i with
    | zero => omega
    | succ n ih =>
      simp only [zeros, List.replicate_succ, List.flatten_cons]
      rcases Nat.lt_or_ge i zs.length with hlt | hge
      · rw [List.getElem?_append_left hlt, Nat.mod_eq_of_lt hlt]
      · rw [List.getElem?_append_right hge, Nat.mod_eq_sub_mod hge]
        exact ih (i - zs.length) (by rw [Nat.add_mul] at hi; omega) (Nat.mod_lt _ hpos)
  rw [e1] at h1
  obtain ⟨v', e2, r⟩ := h.get _ a h1
  simp only [List.getElem?_map, List.getElem?_range hi, Option.map_some, Option.some.injEq] at h2
  have hz : z.size = zs.length := by simpa using hl
  subst h2
  have : z[i % z.size]! = v' := by
    rw [hz]
    simp only [Array.getElem?_toList] at e2
    simp [Array.getElem!_eq_getD, Array.getD_eq_getD_getElem?, e2]
  rw [this]; exact r
theorem bytesOf_info {P : Program} {t : TypeId} {i : TypeInfo} (h : P.info? t = some i) : P.bytesOf t = i.bytes := by simp [Program.bytesOf, h]
end Go.Proofs.YtjleeecaebgblaaGreatDoor.AL
