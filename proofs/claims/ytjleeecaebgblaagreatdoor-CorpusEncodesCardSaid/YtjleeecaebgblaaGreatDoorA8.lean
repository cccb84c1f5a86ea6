/- Every order of evaluation that may be drawn gives what the chosen one gives. -/
import Derived.Test.YtjleeecaebgblaaGreatDoorA7
set_option linter.all false
namespace Go.Proofs.YtjleeecaebgblaaGreatDoor.AL
open Go.RowKit
/-! ### what is static -/
def isL (l : Array Bool) (i : Nat) : Prop := l[i]? = some true
theorem getD_true {l : Array Bool} {i : Nat} (hi : i < l.size) : (l.getD i true = false) ↔ ¬ isL l i := by
  unfold isL
  rw [Array.getD_eq_getD_getElem?, Array.getElem?_eq_getElem hi]
  simp
theorem getD_false {l : Array Bool} {i : Nat} : (l.getD i false = true) ↔ isL l i := by
  unfold isL
  rw [Array.getD_eq_getD_getElem?]
  cases l[i]? <;> simp
theorem ready_iff {ops : Array Oper} {l : Array Bool} (hl : l.size = ops.size) {i : Nat} : i ∈ Region.ready .any ops l ↔ ∃ o, ops[i]? = some o ∧ ¬ isL l i ∧ ∀ e ∈ o.after, Region.binds .any e = true → isL l e.on := by
  unfold Region.ready
  simp only [List.mem_filter, List.mem_range, Bool.and_eq_true, Bool.not_eq_true']
  constructor
  · rintro ⟨hi, h1, h2⟩
    have hio : ops[i]? = some ops[i] := Array.getElem?_eq_getElem hi
    refine ⟨ops[i], hio, (getD_true (by omega)).1 h1, fun e he hb => ?_⟩
    rw [hio] at h2
    simp only [Option.map_some, Option.getD_some, Array.all_eq_true_iff_forall_mem] at h2
    have := h2 e he
    rw [hb] at this
    exact getD_false.1 (by simpa using this)
  · rintro ⟨o, ho, h1, h2⟩
    have hi : i < ops.size := (Array.getElem?_eq_some_iff.1 ho).1
    refine ⟨hi, (getD_true (by omega)).2 h1, ?_⟩
    rw [ho]
    simp only [Option.map_some, Option.getD_some, Array.all_eq_true_iff_forall_mem]
    intro e he
    cases hb : Region.binds .any e with
    | false => simp
    | true => simp [getD_false.2 (h2 e he hb)]
/-- What lies before what is listed is listed. -/
def ClosedL (ops : Array Oper) (l : Array Bool) : Prop := ∀ i o, isL l i → ops[i]? = some o → ∀ e ∈ o.after, Region.binds .any e = true → isL l e.on
theorem isL_set {l : Array Bool} {i j : Nat} (hi : i < l.size) : isL (l.setIfInBounds i true) j ↔ j = i ∨ isL l j := by
  unfold isL
  rw [Array.getElem?_setIfInBounds]
  by_cases h : i = j
  · subst h; simp [hi]
  · simp [h, Ne.symm h]
theorem ClosedL.set {ops : Array Oper} {l : Array Bool} (hl : l.size = ops.size) (h : ClosedL ops l) {i : Nat} (hi : i ∈ Region.ready .any ops l) : ClosedL ops (l.setIfInBounds i true) := by
  obtain ⟨o, ho, _, hp⟩ := (ready_iff hl).1 hi
  have hlt : i < l.size := by rw [hl]; exact (Array.getElem?_eq_some_iff.1 ho).1
  intro j o' hj ho' e he hb
  rw [isL_set hlt] at hj ⊢
  rcases hj with rfl | hj
  · rw [ho] at ho'; cases ho'; exact .inr (hp e he hb)
  · exact .inr (h j o' hj ho' e he hb)
theorem before_listed {ops : Array Oper} {B : List (List Nat)} (hB : befOk ops B = true) {l : Array Bool} (hc : ClosedL ops l) : ∀ (i : Nat) (o : Oper), ops[i]? = some o → (∀ e ∈ o.after, Region.binds .any e = true → isL l e.on) → ∀ j, j ∈ B.getD i [] → isL l j := by
  intro i
  induction i using Nat.strongRecOn with
  | _ i ih =>
    intro o ho hp j hj
    have hi : i < ops.size := (Array.getElem?_eq_some_iff.1 ho).1
    have h1 := List.all_eq_true.1 hB i (List.mem_range.2 hi)
    simp only [ho] at h1
    have h2 := List.all_eq_true.1 h1 j hj
    simp only [Bool.and_eq_true, List.any_eq_true, decide_eq_true_eq, Bool.or_eq_true, beq_iff_eq, List.contains_iff_mem] at h2
    obtain ⟨_, e, he, ⟨hb, hlt⟩, hor⟩ := h2
    have hle := hp e (by simpa using he) hb
    rcases hor with rfl | hor
    · exact hle
    · have heo : ∃ o', ops[e.on]? = some o' := ⟨ops[e.on]'(by omega), Array.getElem?_eq_getElem _⟩
      obtain ⟨o', ho'⟩ := heo
      exact ih e.on hlt o' ho' (fun e' he' hb' => hc e.on o' hle ho' e' he' hb') j hor
theorem names_spec {ops : Array Oper} {B : List (List Nat)} (hB : namesOk ops B = true) {i j : Nat} {x y : Oper} (hi : ops[i]? = some x) (hj : ops[j]? = some y) (hne : i ≠ j) :
    (∀ d, x.dst = some d → d ∈ opTmps ops y → i ∈ B.getD j [] ∨ j ∈ B.getD i []) ∧ (∀ d, x.dst = some d → y.dst ≠ some d) := by
  have hi' : i < ops.size := (Array.getElem?_eq_some_iff.1 hi).1
  have hj' : j < ops.size := (Array.getElem?_eq_some_iff.1 hj).1
  have h1 := List.all_eq_true.1 (List.all_eq_true.1 hB i (List.mem_range.2 hi')) j (List.mem_range.2 hj')
  simp only [hi, hj, Bool.or_eq_true, Bool.and_eq_true, beq_iff_eq, Bool.not_eq_true', List.contains_iff_mem, Bool.and_eq_false_iff] at h1
  rcases h1 with h1 | ⟨h1, h2⟩
  · exact absurd h1 hne
  · refine ⟨fun d hd hm => ?_, fun d hd hy => ?_⟩
    · rcases h1 with (h1 | h1) | h1
      · unfold shares at h1
        rw [hd] at h1
        have hm' : d ∈ y.looksAt ops := by simpa [opTmps] using hm
        simp only at h1
        rw [List.contains_iff_mem.2 hm'] at h1; cases h1
      · exact .inl h1
      · exact .inr h1
    · rcases h2 with h2 | h2
      · rw [hd] at h2; simp at h2
      · rw [hd, hy] at h2; simp at h2
/-- While something is not listed, something is ready. -/
theorem ready_nil {ops : Array Oper} (hE : edgesOk ops = true) {l : Array Bool} (hl : l.size = ops.size) (h : Region.ready .any ops l = []) : ∀ i, i < ops.size → isL l i := by
  intro i
  induction i using Nat.strongRecOn with
  | _ i ih =>
    intro hi
    by_cases hc : isL l i
    · exact hc
    · have hmem : i ∈ Region.ready .any ops l := by
        rw [ready_iff hl]
        refine ⟨ops[i], Array.getElem?_eq_getElem hi, hc, fun e he hb => ?_⟩
        have h1 := List.all_eq_true.1 hE i (List.mem_range.2 hi)
        simp only [Array.getElem?_eq_getElem hi] at h1
        have h2 := List.all_eq_true.1 h1 e (by simpa using he)
        simp only [hb, Bool.not_true, Bool.false_or, decide_eq_true_eq] at h2
        exact ih e.on h2 (by omega)
      rw [h] at hmem; cases hmem
def cntF (l : Array Bool) : Nat := l.toList.count false
theorem cntF_set {l : Array Bool} {i : Nat} (hi : i < l.size) (h : ¬ isL l i) : cntF (l.setIfInBounds i true) + 1 = cntF l := by
  unfold cntF isL at *
  have hf : l.toList[i]'(by simpa using hi) = false := by
    rw [Array.getElem?_eq_getElem hi] at h
    simp at h ⊢
    exact h
  rw [Array.toList_setIfInBounds, List.count_set (by simpa using hi)]
  have : 0 < List.count false l.toList := List.count_pos_iff.2 (by rw [← hf]; exact List.getElem_mem _)
  rw [hf, if_pos (by rfl), if_neg (by decide)]
  omega
theorem cntF_zero {l : Array Bool} (h : cntF l = 0) : ∀ i, i < l.size → isL l i := by
  intro i hi
  unfold cntF at h
  have := List.count_eq_zero.1 h
  unfold isL
  rw [Array.getElem?_eq_getElem hi]
  congr 1
  cases hv : l[i] with
  | true => rfl
  | false => exact absurd (by rw [← hv]; simp) this
end Go.Proofs.YtjleeecaebgblaaGreatDoor.AL
namespace Go.Proofs.YtjleeecaebgblaaGreatDoor.AL
open Go.RowKit
/-! ### one more block, named or not -/
theorem Sim.extend {P : Program} {g : Gh} {w : World} {μ : AMem} (h : Sim P g w μ) (b : ABlk) : Sim P g w { μ with blks := μ.blks ++ [b] } := by
  have get : ∀ i c x, g.φ i = some c → (μ.blks ++ [b])[i]? = some x → μ.blks[i]? = some x := fun i c x e hx => by
    rw [List.getElem?_append_left (h.lt i c e).1] at hx; exact hx
  exact ⟨fun i c e => by have := h.lt i c e; simp only [List.length_append, List.length_singleton]; omega, fun i j c x y e e' hx hy => h.inj i j c x y e e' (get i c x e hx) (get j c y e' hy), h.cpl, fun i c x e hx => h.blk i c x e (get i c x e hx), h.imm,
    fun i c x o e hx hd => h.sep i c x o e (get i c x e hx) hd, h.tlt, h.tk, fun s c n m e i x hs ht hi hx => h.tsep s c n m e i x hs ht hi (get i c x hi hx), h.tinj, h.nd, h.ll, h.tf, h.gl⟩
theorem derefS_ext {μ : AMem} {x : AVal} (b : ABlk) (h : (derefS μ x).ok) : derefS { μ with blks := μ.blks ++ [b] } x = derefS μ x := by
  cases x <;> simp only [derefS] at h ⊢
  rename_i id off
  cases hb : μ.blks[id]? with
  | none => simp [hb] at h
  | some y =>
    have hlt := (List.getElem?_eq_some_iff.1 hb).1
    rw [List.getElem?_append_left hlt, hb]
theorem mgetR_ext {μ : AMem} {kk : KeyK} {k : Value} {x : AVal} (b : ABlk) (h : (mgetR μ kk k x).ok) : mgetR { μ with blks := μ.blks ++ [b] } kk k x = mgetR μ kk k x := by
  unfold mgetR at h ⊢
  split at h
  · rename_i id
    cases hb : μ.blks[id]? with
    | none => simp [hb] at h
    | some y =>
      have hlt := (List.getElem?_eq_some_iff.1 hb).1
      simp only
      rw [List.getElem?_append_left hlt, hb]
  · rfl
  · rename_i h1 h2
    exact h.elim
theorem lenR_ext {l : LenK} {μ : AMem} {x : AVal} (b : ABlk) (h : (lenR l μ x).ok) : lenR l { μ with blks := μ.blks ++ [b] } x = lenR l μ x := by
  unfold lenR at h ⊢
  split at h
  · rfl
  · rfl
  · rfl
  · rfl
  · rename_i id
    cases hb : μ.blks[id]? with
    | none => simp [hb] at h
    | some y =>
      have hlt := (List.getElem?_eq_some_iff.1 hb).1
      simp only
      rw [List.getElem?_append_left hlt, hb]
  · rfl
  · exact h.elim
theorem bstrR_ext {μ : AMem} {x : AVal} (b : ABlk) (h : (bstrR μ x).ok) : bstrR { μ with blks := μ.blks ++ [b] } x = bstrR μ x := by
  unfold bstrR at h ⊢
  split at h
  · rename_i id off n tk
    simp only [asrc, rowCs] at h ⊢
    cases hb : μ.blks[id]? with
    | none => simp [hb] at h
    | some y =>
      have hlt := (List.getElem?_eq_some_iff.1 hb).1
      rw [List.getElem?_append_left hlt, hb]
  · rfl
theorem sem_ext {o : QOp} {A : ATmps} {μ : AMem} (b : ABlk) (h : (o.sem A μ).ok) : o.sem A { μ with blks := μ.blks ++ [b] } = o.sem A μ := by
  cases o
  case load k x =>
    simp only [QOp.sem] at h ⊢
    rw [derefS_ext b (by cases k <;> exact h.1)]
  case lookup kk z x k ok =>
    simp only [QOp.sem] at h ⊢
    unfold lookupR at h ⊢
    split at h
    · rw [mgetR_ext b h.2]
    · exact h.elim
  case len l x => exact lenR_ext b h
  case conv c x =>
    cases c <;> try rfl
    exact bstrR_ext b h
  all_goals rfl
section
variable {P : Program} {N n : Nat} {ro : Option Nat} {g0 : Gh} {w0 : World} {μ0 : AMem}
theorem J.extend {g : Gh} {w : World} {μ : AMem} (h : J P g0 w0 μ0 g w μ) (b : ABlk) (hb : CleanB (μ.blks.length + 1) μ.nx b) : J P g0 w0 μ0 g w { μ with blks := μ.blks ++ [b] } := by
  refine ⟨h.base, h.sim.extend b, ⟨h.st.le, h.st.agree, ?_, h.st.hn, h.st.frame, h.st.own⟩, h.wf.snoc hb, h.nx, h.bl, h.bc⟩
  have := h.st.len
  simp only [List.length_append, List.length_singleton]; omega
/-- A block that the abstract memory holds already is made. -/
theorem J.allocAt {g : Gh} {w : World} {μ : AMem} (h : J P g0 w0 μ0 g w μ) (obj : Obj) {id : Nat} {b : ABlk} (hid : g.φ id = none) (hb : μ.blks[id]? = some b) (hd : b.isDead = false) (h0 : μ0.blks.length ≤ id)
    (hbr : BR P (g.name id w.heap.size) (w.alloc obj) id w.heap.size b) : J P g0 w0 μ0 (g.name id w.heap.size) (w.alloc obj) μ := by
  have hs := h.sim
  have hle : g.le (g.name id w.heap.size) := Gh.le_name hid (hs.Cp_none hid)
  have hlt : id < μ.blks.length := (List.getElem?_eq_some_iff.1 hb).1
  have hφ : ∀ i c, (g.name id w.heap.size).φ i = some c → (i = id ∧ c = w.heap.size) ∨ (i ≠ id ∧ g.φ i = some c) := by
    intro i c e
    simp only [Gh.name] at e
    split at e
    · cases e; exact .inl ⟨by assumption, rfl⟩
    · exact .inr ⟨by assumption, e⟩
  refine ⟨h.base, ?_, ?_, h.wf, h.nx, h.bl, h.bc⟩
  · constructor
    · intro i c e
      rcases hφ i c e with ⟨rfl, rfl⟩ | ⟨hi, e⟩
      · exact ⟨hlt, by simp⟩
      · have := hs.lt i c e; simp; omega
    · intro i j c x y e e' hx hy dx dy
      rcases hφ i c e with ⟨h1, h2⟩ | ⟨h1, h2⟩ <;> rcases hφ j c e' with ⟨h3, h4⟩ | ⟨h3, h4⟩
      · rw [h1, h3]
      · have := (hs.lt j _ h4).2; omega
      · have := (hs.lt i _ h2).2; omega
      · exact hs.inj i j c x y h2 h4 hx hy dx dy
    · intro i c e
      simp only [Gh.name] at e ⊢
      split at e
      · cases e
      · rename_i hi; rw [if_neg hi]; exact hs.cpl i c e
    · intro i c x e hx
      rcases hφ i c e with ⟨rfl, rfl⟩ | ⟨hi, e⟩
      · rw [hb] at hx; cases hx; exact hbr
      · exact BR.mono hle (heap_alloc_old w obj (hs.lt i c e).2) (hs.blk i c x e hx)
    · intro c o x e
      obtain ⟨cs, t, fr, hh, hc⟩ := hs.imm c o x e
      exact ⟨cs, t, fr, (heap_alloc_old w obj (Array.getElem?_eq_some_iff.1 hh).1).trans hh, hc⟩
    · intro i c x o e hx hdx
      rcases hφ i c e with ⟨rfl, rfl⟩ | ⟨hi, e⟩
      · exact hs.H_new _ _ (Nat.le_refl _)
      · exact hs.sep i c x o e hx hdx
    · intro s c n m e ht; have := hs.tlt s c n m e ht; simp; omega
    · intro s c n m e hs' ht
      obtain ⟨cs, hh, r⟩ := hs.tk s c n m e hs' ht
      exact ⟨cs, (heap_alloc_old w obj (Array.getElem?_eq_some_iff.1 hh).1).trans hh, r⟩
    · intro s c n m e i x hs' ht hi hx
      rcases hφ i c hi with ⟨rfl, rfl⟩ | ⟨hi', hi⟩
      · have := hs.tlt s _ n m e ht; omega
      · exact hs.tsep s c n m e i x hs' ht hi hx
    · exact hs.tinj
    · exact hs.nd
    · exact hs.ll
    · exact hs.tf
    · intro b cs e; exact VC.mono hle _ _ _ (hs.gl b cs e)
  · have hf := h.st.frame
    refine ⟨h.st.le.trans hle, fun i hi => ?_, h.st.len, h.st.hn, ⟨hf.os, hf.tape, hf.output, by have := hf.size; simp; omega, fun c hc ho => ?_⟩, fun c hc ho => ?_⟩
    · rw [← h.st.agree i hi]; simp only [Gh.name]; rw [if_neg (by omega)]
    · rw [heap_alloc_old w obj (Nat.lt_of_lt_of_le hc hf.size)]; exact hf.block c hc ho
    · refine h.st.own c hc ?_
      rcases ho with ⟨i, e⟩ | ho
      · rcases hφ i c e with ⟨rfl, rfl⟩ | ⟨hi, e⟩
        · have := hf.size; omega
        · exact .inl ⟨i, e⟩
      · exact .inr ho
/-! ### what has been looked at and not been taken yet -/
structure Ent where
  i : Nat
  d : Option Nat
  rd : List Nat
  A : ATmps
  v : AVal
  chk : AMem → Prop
  new : Option Nat
/-- It does what was looked at whenever it is taken. -/
structure EntOk (P : Program) (N n : Nat) (ro : Option Nat) (g0 : Gh) (w0 : World) (μ0 : AMem) (ops : Array Oper) (u : Ent) : Prop where
  ext : ∀ μ b, u.chk μ → u.chk { μ with blks := μ.blks ++ [b] }
  low : ∀ id μ, u.new = some id → u.chk μ → id < μ.blks.length
  oper : ∃ o, ops[u.i]? = some o ∧ u.d = o.dst ∧ dstOk N o.dst = true ∧ u.rd = opTmps ops o
  run : ∀ {g : Gh} {w : World} {μ : AMem} {a : Act}, J P g0 w0 μ0 g w μ → u.chk μ → TR N g (rsA u.rd u.A) a → (∀ id, u.new = some id → g.φ id = none) → ∀ {next : Act → World → Prop} {Q : Exit → Act → World → Prop},
    (∀ g' w' cv, J P g0 w0 μ0 g' w' μ → VR g' u.v cv → g.le g' → (∀ i, g'.φ i = g.φ i ∨ u.new = some i) → next (a.put u.d cv) w') → wpOpIn (wideF ro) n P ops Q u.i next a w
theorem St.φ_eq {g : Gh} {w : World} {μ : AMem} {g' : Gh} {w' : World} (hs : Sim P g w μ) (hs' : Sim P g' w' μ) (h : St g w μ g' w' μ) (i : Nat) : g'.φ i = g.φ i := by
  rcases Nat.lt_or_ge i μ.blks.length with hi | hi
  · exact h.agree i hi
  · rw [hs.φ_new hi, hs'.φ_new hi]
theorem ent_q {mu : Nat → Bool} {ops : Array Oper} {s : AStep} {rd : List Nat} {o : Oper} (hs : mkStep P N mu ops s.i = some { s with rd := [], rc := [] }) (ho : ops[s.i]? = some o) (hrd : rd = opTmps ops o) {q : QOp} (hq : s.op = .q q) (hg : s.guard = none) (A : ATmps) (v : AVal) :
    EntOk P N n ro g0 w0 μ0 ops ⟨s.i, s.dst, rd, A, v, fun μ' => (q.sem (rsA rd A) μ').ok ∧ (q.sem (rsA rd A) μ').v = v, none⟩ := by
  obtain ⟨o', ho', _, hdst, hdok, hop, hguard⟩ := mkStep_spec hs
  rw [ho] at ho'; cases ho'
  simp only at hdst hop hguard
  rw [hq] at hop
  refine ⟨fun μ b h => ?_, fun id μ h => by simp at h, ⟨o, ho, hdst, hdok, hrd⟩, ?_⟩
  · have := sem_ext b h.1
    exact ⟨by rw [this]; exact h.1, by rw [this]; exact h.2⟩
  · intro g w μ a hj hchk ht _ next Q hk
    have hd := mkOp_defer hop
    unfold wpOpIn
    simp only [ho]
    have hg' : o.guard = none := by
      rcases hguard with ⟨h1, _⟩ | ⟨j, want, t, _, _, _, h1⟩
      · exact h1
      · rw [hg] at h1; cases h1
    have hw : Region.wanted o (yielded ops a.tmps) = true := by simp [Region.wanted, hg']
    rw [if_pos hw]
    obtain ⟨cv, w', g', hr, hv, hsim', hst'⟩ := run_Q hj.sim ht (mkOp_q hop) hchk.1
    refine upon_value hd hr ?_
    rw [← hdst]
    exact hk g' w' cv (hj.step hsim' hst' hj.wf (Nat.le_refl _)) (by rw [← hchk.2]; exact hv) hst'.le fun i => .inl (St.φ_eq hj.sim hsim' hst' i)
theorem ent_qg {mu : Nat → Bool} {ops : Array Oper} {s : AStep} {rd : List Nat} {o : Oper} (hs : mkStep P N mu ops s.i = some { s with rd := [], rc := [] }) (ho : ops[s.i]? = some o) (hrd : rd = opTmps ops o) {q : QOp} (hq : s.op = .q q) {t : Nat} {want : Bool} (hg : s.guard = some (t, want)) (A : ATmps) (v : AVal)
    (hok : (gdR want (rsA rd A t)).ok) (hv0 : (gdR want (rsA rd A t)).b = false → ∀ g, VR g v undef) :
    EntOk P N n ro g0 w0 μ0 ops ⟨s.i, s.dst, rd, A, v, fun μ' => (gdR want (rsA rd A t)).b = true → (q.sem (stripA (gdR want (rsA rd A t)).b (rsA rd A)) μ').ok ∧ .opt (gdR want (rsA rd A t)).b (q.sem (stripA (gdR want (rsA rd A t)).b (rsA rd A)) μ').v = v, none⟩ := by
  obtain ⟨o', ho', _, hdst, hdok, hop, hguard⟩ := mkStep_spec hs
  rw [ho] at ho'; cases ho'
  simp only at hdst hop hguard
  rw [hq] at hop
  refine ⟨fun μ b h hp => ?_, fun id μ h => by simp at h, ⟨o, ho, hdst, hdok, hrd⟩, ?_⟩
  · have := sem_ext b (h hp).1
    exact ⟨by rw [this]; exact (h hp).1, by rw [this]; exact (h hp).2⟩
  · intro g w μ a hj hchk ht _ next Q hk
    have hd := mkOp_defer hop
    unfold wpOpIn
    simp only [ho]
    rcases hguard with ⟨_, h1⟩ | ⟨j, want', t', hg', hjt, htN, h1⟩
    · rw [hg] at h1; cases h1
    rw [hg] at h1; cases h1
    have hw := wanted_spec ht hg' hjt htN hok
    simp only at hchk
    generalize hp : (gdR want (rsA rd A t)).b = p at hw hchk hv0
    cases p with
    | false =>
      rw [if_neg (by rw [hw]; simp)]
      refine ⟨fun _ _ => trivial, ?_⟩
      rw [← hdst]
      exact hk g w undef hj (hv0 rfl g) (.refl g) fun i => .inl rfl
    | true =>
      rw [if_pos hw]
      obtain ⟨h1, h2⟩ := hchk rfl
      obtain ⟨cv, w', g', hr, hv, hsim', hst'⟩ := run_Q hj.sim (ht.strip rfl) (mkOp_q hop) h1
      refine upon_value hd hr ?_
      rw [← hdst]
      exact hk g' w' cv (hj.step hsim' hst' hj.wf (Nat.le_refl _)) (by rw [← h2]; simp only [VR]; exact ⟨fun _ => hv, by simp⟩) hst'.le fun i => .inl (St.φ_eq hj.sim hsim' hst' i)
theorem ent_n {mu : Nat → Bool} {ops : Array Oper} {s : AStep} {rd : List Nat} {o : Oper} (hs : mkStep P N mu ops s.i = some { s with rd := [], rc := [] }) (ho : ops[s.i]? = some o) (hrd : rd = opTmps ops o) {q : NOp} (hq : s.op = .n q) (hg : s.guard = none) (A : ATmps) (id : Nat)
    (hok : (q.sem (rsA rd A)).ok) (h0 : μ0.blks.length ≤ id) :
    EntOk P N n ro g0 w0 μ0 ops ⟨s.i, s.dst, rd, A, (q.sem (rsA rd A)).v id, fun μ' => μ'.blks[id]? = some (q.sem (rsA rd A)).blk, some id⟩ := by
  obtain ⟨o', ho', _, hdst, hdok, hop, hguard⟩ := mkStep_spec hs
  rw [ho] at ho'; cases ho'
  simp only at hdst hop hguard
  rw [hq] at hop
  refine ⟨fun μ b h => ?_, fun id' μ h hc => ?_, ⟨o, ho, hdst, hdok, hrd⟩, ?_⟩
  · have hlt := (List.getElem?_eq_some_iff.1 h).1
    simp only at h ⊢
    rw [List.getElem?_append_left hlt]; exact h
  · simp only [Option.some.injEq] at h; subst h
    exact (List.getElem?_eq_some_iff.1 hc).1
  · intro g w μ a hj hchk ht hnone next Q hk
    have hd := mkOp_defer hop
    unfold wpOpIn
    simp only [ho]
    have hg' : o.guard = none := by
      rcases hguard with ⟨h1, _⟩ | ⟨j, want, t, _, _, _, h1⟩
      · exact h1
      · rw [hg] at h1; cases h1
    have hw : Region.wanted o (yielded ops a.tmps) = true := by simp [Region.wanted, hg']
    rw [if_pos hw]
    obtain ⟨obj, cv, hr, hb⟩ := run_N (g := g) (w := w) ht (mkOp_n hop) hok
    have hid := hnone id rfl
    have hle : g.le (g.name id w.heap.size) := Gh.le_name hid (hj.sim.Cp_none hid)
    obtain ⟨hbr, hvr⟩ := hb (g.name id w.heap.size) id hle (by simp [Gh.name])
    refine upon_value hd hr ?_
    rw [← hdst]
    refine hk _ _ cv (hj.allocAt obj hid hchk (isDead_N hok) h0 hbr) hvr hle fun i => ?_
    by_cases hi : i = id
    · subst hi; exact .inr rfl
    · left; simp only [Gh.name]; rw [if_neg hi]
end
end Go.Proofs.YtjleeecaebgblaaGreatDoor.AL
namespace Go.Proofs.YtjleeecaebgblaaGreatDoor.AL
open Go.RowKit
theorem mkStep_plain {P : Program} {N : Nat} {mu : Nat → Bool} {ops : Array Oper} {i : Nat} {s : AStep} (h : mkStep P N mu ops i = some s) : s.rd = [] ∧ s.rc = [] := by
  unfold mkStep at h
  split at h
  · cases h
  split at h
  · split at h
    · cases h
    split at h
    · cases h; exact ⟨rfl, rfl⟩
    · split at h
      · split at h <;> cases h; exact ⟨rfl, rfl⟩
      · cases h
  · cases h
/-- The canonical order, as a relation. -/
inductive OrdOk (P : Program) (N : Nat) (mu : Nat → Bool) (ops : Array Oper) (B : List (List Nat)) : Array Bool → List Nat → List DStep → Prop
  | nil (lc : Array Bool) (done : List Nat) : Region.ready .any ops lc = [] → OrdOk P N mu ops B lc done []
  | quiet (lc : Array Bool) (done : List Nat) (s : AStep) (o : Oper) (rest : List DStep) : ops[s.i]? = some o → mkStep P N mu ops s.i = some { s with rd := [], rc := [] } → s.rd = opTmps ops o → s.i ∈ Region.ready .any ops lc → s.op.eff = false →
      OrdOk P N mu ops B (lc.setIfInBounds s.i true) (s.i :: done) rest → OrdOk P N mu ops B lc done (.one s :: rest)
  | eff (lc : Array Bool) (done : List Nat) (s : AStep) (o : Oper) (rest : List DStep) : ops[s.i]? = some o → mkStep P N mu ops s.i = some { s with rd := [], rc := [] } → s.rd = opTmps ops o → Region.ready .any ops lc = [s.i] → s.op.eff = true →
      s.rc = done.filter (fun j => !(B.getD s.i []).contains j) → OrdOk P N mu ops B (lc.setIfInBounds s.i true) done rest → OrdOk P N mu ops B lc done (.one s :: rest)
  | two (lc : Array Bool) (done : List Nat) (s t : AStep) (o q : Oper) (rest : List DStep) : ops[s.i]? = some o → mkStep P N mu ops s.i = some { s with rd := [], rc := [] } → s.rd = opTmps ops o → s.op.eff = true → s.rc = done.filter (fun j => !(B.getD s.i []).contains j) →
      ops[t.i]? = some q → mkStep P N mu ops t.i = some { t with rd := [], rc := [] } → t.rd = opTmps ops q → t.op.eff = true → t.rc = done.filter (fun j => !(B.getD t.i []).contains j) →
      Region.ready .any ops lc = [s.i, t.i] → Region.ready .any ops (lc.setIfInBounds s.i true) = [t.i] → Region.ready .any ops (lc.setIfInBounds t.i true) = [s.i] →
      OrdOk P N mu ops B ((lc.setIfInBounds s.i true).setIfInBounds t.i true) done rest → OrdOk P N mu ops B lc done (.two s t :: rest)
theorem bare_eq {s0 : AStep} (h : s0.rd = [] ∧ s0.rc = []) (rd rc : List Nat) : ({ ({ s0 with rd := rd, rc := rc } : AStep) with rd := [], rc := [] } : AStep) = s0 := by
  cases s0; simp only at h; obtain ⟨h1, h2⟩ := h; subst h1; subst h2; rfl
theorem lazy_ok {P : Program} {N : Nat} {mu : Nat → Bool} {ops : Array Oper} {B : List (List Nat)} : ∀ (fuel : Nat) (lc : Array Bool) (done : List Nat) (l : List DStep), lazyOrder P N mu ops B fuel lc done = some l → OrdOk P N mu ops B lc done l := by
  intro fuel
  induction fuel with
  | zero =>
    intro lc done l h
    simp only [lazyOrder] at h
    split at h <;> cases h
    exact .nil _ _ (by assumption)
  | succ fuel ih =>
    intro lc done l h
    simp only [lazyOrder] at h
    split at h
    · cases h; exact .nil _ _ (by assumption)
    · split at h
      · rename_i i hf
        have hmem := List.mem_of_find?_eq_some hf
        have hp := List.find?_some hf
        split at h
        · rename_i s0 o hs ho
          obtain ⟨r, hr, e⟩ := Option.map_eq_some_iff.1 h
          cases e
          obtain ⟨_, _, hi, _⟩ := mkStep_spec hs
          have hpl := mkStep_plain hs
          rw [hs] at hp
          simp only [Bool.not_eq_true'] at hp
          subst hi
          refine .quiet _ _ { s0 with rd := opTmps ops o } o r ho ?_ rfl hmem hp (ih _ _ _ hr)
          have := bare_eq hpl (opTmps ops o) s0.rc
          rw [hs]; exact congrArg some this.symm
        · cases h
      · rename_i hf
        have heff : ∀ i s0, i ∈ Region.ready .any ops lc → mkStep P N mu ops i = some s0 → s0.op.eff = true := fun i s0 hi hs => by
          have := List.find?_eq_none.1 hf i hi
          rw [hs] at this
          simpa using this
        split at h
        · rename_i i hrs
          split at h
          · rename_i s0 o hs ho
            obtain ⟨r, hr, e⟩ := Option.map_eq_some_iff.1 h
            cases e
            obtain ⟨_, _, hi, _⟩ := mkStep_spec hs
            have hpl := mkStep_plain hs
            have he := heff i s0 (by rw [hrs]; simp) hs
            subst hi
            refine .eff _ _ (effStep ops B done s0 o) o r ho ?_ rfl hrs he rfl (ih _ _ _ hr)
            have := bare_eq hpl (effStep ops B done s0 o).rd (effStep ops B done s0 o).rc
            show mkStep P N mu ops s0.i = _
            rw [hs]; exact congrArg some this.symm
          · cases h
        · rename_i i j hrs
          split at h
          · rename_i hc
            split at h
            · rename_i s0 o t0 q hs ho ht hq
              obtain ⟨r, hr, e⟩ := Option.map_eq_some_iff.1 h
              cases e
              obtain ⟨_, _, hi, _⟩ := mkStep_spec hs
              obtain ⟨_, _, hj, _⟩ := mkStep_spec ht
              have hpl := mkStep_plain hs
              have hpl2 := mkStep_plain ht
              have he := heff i s0 (by rw [hrs]; simp) hs
              have he2 := heff j t0 (by rw [hrs]; simp) ht
              subst hi; subst hj
              refine .two _ _ (effStep ops B done s0 o) (effStep ops B done t0 q) o q r ho ?_ rfl he rfl hq ?_ rfl he2 rfl hrs hc.1 hc.2 (ih _ _ _ hr)
              · have := bare_eq hpl (effStep ops B done s0 o).rd (effStep ops B done s0 o).rc
                show mkStep P N mu ops s0.i = _
                rw [hs]; exact congrArg some this.symm
              · have := bare_eq hpl2 (effStep ops B done t0 q).rd (effStep ops B done t0 q).rc
                show mkStep P N mu ops t0.i = _
                rw [ht]; exact congrArg some this.symm
            · cases h
          · cases h
        · cases h
theorem put_getD {N : Nat} {a : Act} (hsz : a.tmps.size = N) {d : Option Tmp} (hd : dstOk N d = true) (cv : Value) (t : Nat) : (a.put d cv).tmps.getD t undef = if d = some t then cv else a.tmps.getD t undef := by
  cases d with
  | none => simp [Act.put]
  | some d =>
    have hd' : d < a.tmps.size := by rw [hsz]; simpa [dstOk] using hd
    simp only [Act.put, Array.getD_eq_getD_getElem?, Array.getElem?_setIfInBounds, Option.some.injEq]
    by_cases h : d = t
    · subst h; simp [hd']
    · simp [h]
theorem put_size {a : Act} {d : Option Tmp} {cv : Value} : (a.put d cv).tmps.size = a.tmps.size := by cases d <;> simp [Act.put]
theorem rechk_mem {rc : List Nat} {μ : AMem} : ∀ {pd : Pend}, rechk rc pd μ → ∀ x, x ∈ pd → x.1 ∈ rc → x.2 μ
  | [], _, x, hx, _ => by cases hx
  | y :: pd, h, x, hx, hr => by
    simp only [rechk] at h
    rcases List.mem_cons.1 hx with rfl | hx
    · rw [if_pos hr] at h; exact h.1
    · exact rechk_mem h.2 x hx hr
section
variable {P : Program} {N n : Nat} {ro : Option Nat} {g0 : Gh} {w0 : World} {μ0 : AMem}
structure DI (P : Program) (N n : Nat) (ro : Option Nat) (g0 : Gh) (w0 : World) (μ0 : AMem) (mu : Nat → Bool) (ops : Array Oper) (B : List (List Nat)) (K : AK) (E : AE)
    (lc : Array Bool) (done : List Nat) (steps : List DStep) (pd : Pend) (A : ATmps) (μ : AMem) (g : Gh) (U : List Ent) (la : Array Bool) (a : Act) (w : World) : Prop where
  ord : OrdOk P N mu ops B lc done steps
  awp : stepsD P E K steps pd A μ
  sla : la.size = ops.size
  slc : lc.size = ops.size
  sub : ∀ i, isL la i → isL lc i
  cla : ClosedL ops la
  clc : ClosedL ops lc
  u1 : ∀ u ∈ U, isL lc u.i ∧ ¬ isL la u.i
  u2 : ∀ i, isL lc i → isL la i ∨ ∃ u ∈ U, u.i = i
  und : ∀ u ∈ U, ∀ u' ∈ U, u.i = u'.i → u = u'
  uok : ∀ u ∈ U, EntOk P N n ro g0 w0 μ0 ops u
  uch : ∀ u ∈ U, u.chk μ
  upd : ∀ u ∈ U, (u.i, u.chk) ∈ pd
  udn : ∀ u ∈ U, u.i ∈ done
  unw : ∀ u ∈ U, ∀ id, u.new = some id → g.φ id = none
  unn : ∀ u ∈ U, ∀ u' ∈ U, ∀ id, u.new = some id → u'.new = some id → u = u'
  j : J P g0 w0 μ0 g w μ
  sz : a.tmps.size = N
  val : ∀ t, (∀ u ∈ U, u.d ≠ some t) → VR g (A t) (a.tmps.getD t undef)
  cln : CleanA μ.blks.length μ.nx A
  dfr : DfR P g μ.df a.defers
  rdv : ∀ u ∈ U, ∀ t ∈ u.rd, (∃ u' ∈ U, u'.i ∈ B.getD u.i [] ∧ u'.d = some t) ∨ VR g (u.A t) (a.tmps.getD t undef)
  dv : ∀ u ∈ U, ∀ t, u.d = some t → A t = u.v
  dvr : ∀ u ∈ U, ∀ u2 ∈ U, ∀ t, u.i ∈ B.getD u2.i [] → u.d = some t → t ∈ u2.rd → u2.A t = u.v
/-- Some way of looking ahead fits. -/
def DX (P : Program) (N n : Nat) (ro : Option Nat) (g0 : Gh) (w0 : World) (μ0 : AMem) (mu : Nat → Bool) (ops : Array Oper) (B : List (List Nat)) (K : AK) (E : AE) (la : Array Bool) (a : Act) (w : World) : Prop :=
  ∃ lc done steps pd A μ g U, DI P N n ro g0 w0 μ0 mu ops B K E lc done steps pd A μ g U la a w
variable {mu : Nat → Bool} {ops : Array Oper} {B : List (List Nat)} {K : AK} {E : AE}
section
variable (hB : befOk ops B = true) (hN : namesOk ops B = true)
include hB hN
/-- AN OPERATION THAT HAS BEEN LOOKED AT IS TAKEN. -/
theorem DI.take {lc : Array Bool} {done : List Nat} {steps : List DStep} {pd : Pend} {A : ATmps} {μ : AMem} {g : Gh} {U : List Ent} {la : Array Bool} {a : Act} {w : World}
    (h : DI P N n ro g0 w0 μ0 mu ops B K E lc done steps pd A μ g U la a w) {u : Ent} (hu : u ∈ U) (hr : u.i ∈ Region.ready .any ops la) {Q : Exit → Act → World → Prop} :
    wpOpIn (wideF ro) n P ops Q u.i (DX P N n ro g0 w0 μ0 mu ops B K E (la.setIfInBounds u.i true)) a w := by
  obtain ⟨o, ho, hud, hudok, hurd⟩ := (h.uok u hu).oper
  obtain ⟨o', ho', hnl, hpre⟩ := (ready_iff h.sla).1 hr
  rw [ho] at ho'; cases ho'
  have hlt : u.i < la.size := by rw [h.sla]; exact (Array.getElem?_eq_some_iff.1 ho).1
  have hbef : ∀ j, j ∈ B.getD u.i [] → isL la j := before_listed hB h.cla u.i o ho hpre
  have ht : TR N g (rsA u.rd u.A) a := by
    refine ⟨h.sz, fun t => ?_⟩
    unfold rsA
    split
    · rename_i hm
      rcases h.rdv u hu t hm with ⟨u', hu', hb, _⟩ | hv
      · exact absurd (hbef _ hb) (h.u1 u' hu').2
      · exact hv
    · simp [VR]
  refine (h.uok u hu).run h.j (h.uch u hu) ht (h.unw u hu) fun g' w' cv hj' hv hle hφ => ?_
  have hget := put_getD (a := a) h.sz (d := u.d) (by rw [hud]; exact hudok) cv
  refine ⟨lc, done, steps, pd, A, μ, g', U.filter (fun x => x.i != u.i), ?_⟩
  have hmem : ∀ {x}, x ∈ U.filter (fun x => x.i != u.i) → x ∈ U ∧ x.i ≠ u.i := fun hx => by
    have := List.mem_filter.1 hx
    exact ⟨this.1, by simpa using this.2⟩
  have hmem' : ∀ {x}, x ∈ U → x.i ≠ u.i → x ∈ U.filter (fun x => x.i != u.i) := fun hx hne => List.mem_filter.2 ⟨hx, by simpa using hne⟩
  constructor
  · exact h.ord
  · exact h.awp
  · simpa using h.sla
  · exact h.slc
  · intro i hi
    rcases (isL_set hlt).1 hi with rfl | hi
    · exact (h.u1 u hu).1
    · exact h.sub i hi
  · exact h.cla.set h.sla hr
  · exact h.clc
  · intro x hx
    obtain ⟨hx, hne⟩ := hmem hx
    refine ⟨(h.u1 x hx).1, fun hl => ?_⟩
    rcases (isL_set hlt).1 hl with h1 | h1
    · exact hne h1
    · exact (h.u1 x hx).2 h1
  · intro i hi
    rw [isL_set hlt]
    rcases h.u2 i hi with h1 | ⟨x, hx, rfl⟩
    · exact .inl (.inr h1)
    · by_cases hne : x.i = u.i
      · exact .inl (.inl hne)
      · exact .inr ⟨x, hmem' hx hne, rfl⟩
  · intro x hx y hy; exact h.und x (hmem hx).1 y (hmem hy).1
  · intro x hx; exact h.uok x (hmem hx).1
  · intro x hx; exact h.uch x (hmem hx).1
  · intro x hx; exact h.upd x (hmem hx).1
  · intro x hx; exact h.udn x (hmem hx).1
  · intro x hx id hid
    rcases hφ id with e | e
    · rw [e]; exact h.unw x (hmem hx).1 id hid
    · have := h.unn x (hmem hx).1 u hu id hid e
      exact absurd (by rw [this]) (hmem hx).2
  · intro x hx y hy; exact h.unn x (hmem hx).1 y (hmem hy).1
  · exact hj'
  · rw [put_size]; exact h.sz
  · intro t hne
    rw [hget]
    split
    · rename_i hd
      rw [h.dv u hu t hd]; exact hv
    · rename_i hd
      refine VR.mono hle _ _ (h.val t fun x hx => ?_)
      by_cases he : x.i = u.i
      · rw [h.und x hx u hu he]; exact hd
      · exact hne x (hmem' hx he)
  · exact h.cln
  · rw [put_defers]; exact DfR.mono hle _ _ h.dfr
  · intro x hx t ht'
    obtain ⟨hx, hne⟩ := hmem hx
    have viau : u.i ∈ B.getD x.i [] → u.d = some t → VR g' (x.A t) ((a.put u.d cv).tmps.getD t undef) := fun hb hd => by
      rw [hget, if_pos hd, h.dvr u hu x hx t hb hd ht']; exact hv
    rcases h.rdv x hx t ht' with ⟨y, hy, hb, hd⟩ | hvx
    · by_cases he : y.i = u.i
      · have := h.und y hy u hu he
        subst this
        exact .inr (viau hb hd)
      · exact .inl ⟨y, hmem' hy he, hb, hd⟩
    · by_cases hd : u.d = some t
      · obtain ⟨ox, hox, _, _, hxrd⟩ := (h.uok x hx).oper
        rcases (names_spec hN ho hox (Ne.symm hne)).1 t (by rw [← hud]; exact hd) (by rw [← hxrd]; exact ht') with hb | hb
        · exact .inr (viau hb hd)
        · exact absurd (hbef _ hb) (h.u1 x hx).2
      · right
        rw [hget, if_neg hd]
        exact VR.mono hle _ _ hvx
  · intro x hx; exact h.dv x (hmem hx).1
  · intro x hx y hy; exact h.dvr x (hmem hx).1 y (hmem hy).1
/-- ONE MORE IS LOOKED AT. -/
theorem DI.ahead {lc : Array Bool} {done : List Nat} {s : AStep} {rest : List DStep} {pd : Pend} {A : ATmps} {μ : AMem} {g : Gh} {U : List Ent} {la : Array Bool} {a : Act} {w : World}
    (h : DI P N n ro g0 w0 μ0 mu ops B K E lc done (.one s :: rest) pd A μ g U la a w) (heff : s.op.eff = false) :
    ∃ lc' done' pd' A' μ' U', DI P N n ro g0 w0 μ0 mu ops B K E lc' done' rest pd' A' μ' g U' la a w := by
  obtain ⟨o, ho, hmk, hrd, hready, hord⟩ : ∃ o, ops[s.i]? = some o ∧ mkStep P N mu ops s.i = some { s with rd := [], rc := [] } ∧ s.rd = opTmps ops o ∧ s.i ∈ Region.ready .any ops lc ∧ OrdOk P N mu ops B (lc.setIfInBounds s.i true) (s.i :: done) rest := by
    cases h.ord with
    | quiet _ _ _ o _ h1 h2 h3 h4 h5 h6 => exact ⟨o, h1, h2, h3, h4, h6⟩
    | eff _ _ _ o _ h1 h2 h3 h4 h5 => rw [heff] at h5; cases h5
  obtain ⟨o', ho', hnl, hpre⟩ := (ready_iff h.slc).1 hready
  rw [ho] at ho'; cases ho'
  have hlt : s.i < lc.size := by rw [h.slc]; exact (Array.getElem?_eq_some_iff.1 ho).1
  obtain ⟨_, ho2, _, hdst, hdok, hop, hguard⟩ := mkStep_spec hmk
  rw [ho] at ho2; cases ho2
  simp only at hdst hop hguard
  have hnotin : ∀ u ∈ U, u.i ≠ s.i := fun u hu e => hnl (e ▸ (h.u1 u hu).1)
  -- nothing that has been looked at lies behind s
  have hback : ∀ u ∈ U, s.i ∉ B.getD u.i [] := fun u hu hb => by
    obtain ⟨ou, hou, _⟩ := (h.uok u hu).oper
    exact hnl (before_listed hB h.clc u.i ou hou (fun e he hb => h.clc u.i ou (h.u1 u hu).1 hou e he hb) s.i hb)
  have hself : s.i ∉ B.getD s.i [] := fun hb => hnl (before_listed hB h.clc s.i o ho hpre s.i hb)
  have key : ∀ (v : AVal) (chk : AMem → Prop) (new : Option Nat) (μ' : AMem), EntOk P N n ro g0 w0 μ0 ops ⟨s.i, s.dst, s.rd, A, v, chk, new⟩ → chk μ' → (∀ id, new = some id → g.φ id = none) → (∀ id, new = some id → ∀ u ∈ U, u.new ≠ some id) →
      (∀ u ∈ U, u.chk μ → u.chk μ') → μ'.df = μ.df → J P g0 w0 μ0 g w μ' → CleanA μ'.blks.length μ'.nx (put A s.dst v) → stepsD P E K rest ((s.i, chk) :: pd) (put A s.dst v) μ' →
      ∃ lc' done' pd' A' μ' U', DI P N n ro g0 w0 μ0 mu ops B K E lc' done' rest pd' A' μ' g U' la a w := by
    intro v chk new μ' hok hchk hnew hnn hext hdf hj' hcl hawp
    refine ⟨lc.setIfInBounds s.i true, s.i :: done, (s.i, chk) :: pd, put A s.dst v, μ', ⟨s.i, s.dst, s.rd, A, v, chk, new⟩ :: U, ?_⟩
    constructor
    · exact hord
    · exact hawp
    · exact h.sla
    · simpa using h.slc
    · intro i hi; exact (isL_set hlt).2 (.inr (h.sub i hi))
    · exact h.cla
    · exact h.clc.set h.slc hready
    · intro u hu
      rcases List.mem_cons.1 hu with rfl | hu
      · exact ⟨(isL_set hlt).2 (.inl rfl), fun hl => hnl (h.sub _ hl)⟩
      · exact ⟨(isL_set hlt).2 (.inr (h.u1 u hu).1), (h.u1 u hu).2⟩
    · intro i hi
      rcases (isL_set hlt).1 hi with rfl | hi
      · exact .inr ⟨_, List.mem_cons_self, rfl⟩
      · rcases h.u2 i hi with h1 | ⟨x, hx, hxi⟩
        · exact .inl h1
        · exact .inr ⟨x, List.mem_cons_of_mem _ hx, hxi⟩
    · intro u hu u' hu' e
      rcases List.mem_cons.1 hu with rfl | hu <;> rcases List.mem_cons.1 hu' with rfl | hu'
      · rfl
      · exact absurd e.symm (hnotin u' hu')
      · exact absurd e (hnotin u hu)
      · exact h.und u hu u' hu' e
    · intro u hu
      rcases List.mem_cons.1 hu with rfl | hu
      · exact hok
      · exact h.uok u hu
    · intro u hu
      rcases List.mem_cons.1 hu with rfl | hu
      · exact hchk
      · exact hext u hu (h.uch u hu)
    · intro u hu
      rcases List.mem_cons.1 hu with rfl | hu
      · exact List.mem_cons_self
      · exact List.mem_cons_of_mem _ (h.upd u hu)
    · intro u hu
      rcases List.mem_cons.1 hu with rfl | hu
      · exact List.mem_cons_self
      · exact List.mem_cons_of_mem _ (h.udn u hu)
    · intro u hu id hid
      rcases List.mem_cons.1 hu with rfl | hu
      · exact hnew id hid
      · exact h.unw u hu id hid
    · intro u hu u' hu' id hid hid'
      rcases List.mem_cons.1 hu with rfl | hu <;> rcases List.mem_cons.1 hu' with rfl | hu'
      · rfl
      · exact absurd hid' (hnn id hid u' hu')
      · exact absurd hid (hnn id hid' u hu)
      · exact h.unn u hu u' hu' id hid hid'
    · exact hj'
    · exact h.sz
    · intro t hne
      have h1 := hne _ List.mem_cons_self
      have h2 : put A s.dst v t = A t := by
        cases hd : s.dst with
        | none => rfl
        | some d => exact put_ne _ _ _ _ (fun e => h1 (by simp only; rw [hd, e]))
      rw [h2]
      exact h.val t fun u hu => hne u (List.mem_cons_of_mem _ hu)
    · exact hcl
    · rw [hdf]; exact h.dfr
    · intro u hu t ht
      rcases List.mem_cons.1 hu with rfl | hu
      · simp only at ht ⊢
        by_cases hex : ∃ u' ∈ U, u'.d = some t
        · obtain ⟨u', hu', hd⟩ := hex
          obtain ⟨ou, hou, hud, _⟩ := (h.uok u' hu').oper
          rcases (names_spec hN hou ho (hnotin u' hu')).1 t (by rw [← hud]; exact hd) (by rw [← hrd]; exact ht) with hb | hb
          · exact .inl ⟨u', List.mem_cons_of_mem _ hu', hb, hd⟩
          · exact absurd hb (hback u' hu')
        · exact .inr (h.val t fun u' hu' hd => hex ⟨u', hu', hd⟩)
      · rcases h.rdv u hu t ht with ⟨u', hu', hb, hd⟩ | hv
        · exact .inl ⟨u', List.mem_cons_of_mem _ hu', hb, hd⟩
        · exact .inr hv
    · intro u hu t ht
      rcases List.mem_cons.1 hu with rfl | hu
      · simp only at ht ⊢
        rw [ht]; exact put_same _ _ _
      · obtain ⟨ou, hou, hud, _⟩ := (h.uok u hu).oper
        have := (names_spec hN hou ho (hnotin u hu)).2 t (by rw [← hud]; exact ht)
        have h2 : put A s.dst v t = A t := by
          cases hd : s.dst with
          | none => rfl
          | some d => exact put_ne _ _ _ _ (fun e => this (by rw [← hdst, hd, e]))
        rw [h2]; exact h.dv u hu t ht
    · intro u hu u' hu' t hb hd ht
      rcases List.mem_cons.1 hu with rfl | hu <;> rcases List.mem_cons.1 hu' with rfl | hu'
      · exact absurd hb hself
      · exact absurd hb (hback u' hu')
      · exact h.dv u hu t hd
      · exact h.dvr u hu u' hu' t hb hd ht
  have hj := h.j
  have hawp := h.awp
  simp only [stepsD] at hawp
  unfold stepD at hawp
  cases hso : s.op with
  | q q =>
    rw [hso] at hop
    rcases hguard with ⟨_, hg⟩ | ⟨jj, want, t, hgo, hjt, htN, hg⟩
    · simp only [hg, hso] at hawp
      obtain ⟨hok, hk⟩ := hawp
      exact key _ _ none μ (ent_q hmk ho hrd hso hg A _) ⟨hok, rfl⟩ (by simp) (by simp) (fun u _ hc => hc) rfl hj (h.cln.put _ (Clean_Q hj.wf (h.cln.rs _) (resQ_closed (mkOp_q hop)))) hk
    · simp only [hg, hso] at hawp
      obtain ⟨hgok, hok, hk⟩ := hawp
      have hcl : Clean μ.blks.length μ.nx (q.sem (stripA (gdR want (rsA s.rd A t)).b (rsA s.rd A)) μ).v := Clean_Q hj.wf ((h.cln.rs _).strip _) (resQ_closed (mkOp_q hop))
      refine key _ _ none μ (ent_qg hmk ho hrd hso hg A _ hgok ?_) (fun hp => ⟨hok hp, rfl⟩) (by simp) (by simp) (fun u _ hc => hc) rfl hj (h.cln.put _ (by simpa [Clean] using hcl)) hk
      intro hp g
      rw [hp]; simp [VR]
  | n q =>
    rw [hso] at hop
    rcases hguard with ⟨_, hg⟩ | ⟨jj, want, t, hgo, hjt, htN, hg⟩
    · simp only [hg, hso] at hawp
      obtain ⟨hok, hk⟩ := hawp
      obtain ⟨hcb, hcv⟩ := Clean_N (k := μ.blks.length + 1) (s := μ.nx) ((h.cln.rs s.rd).mono (Nat.le_succ _) (Nat.le_refl _)) (resN_closed (mkOp_n hop))
      refine key _ _ (some μ.blks.length) { μ with blks := μ.blks ++ [(q.sem (rsA s.rd A)).blk] } (ent_n hmk ho hrd hso hg A μ.blks.length hok hj.st.len) (by simp) ?_ ?_ (fun u hu hc => (h.uok u hu).ext _ _ hc) rfl (hj.extend _ hcb) ?_ hk
      · intro id hid
        cases hid; exact hj.sim.φ_new (Nat.le_refl _)
      · intro id hid u hu hc
        cases hid
        exact absurd ((h.uok u hu).low _ _ hc (h.uch u hu)) (Nat.lt_irrefl _)
      · have := (h.cln.mono (Nat.le_succ μ.blks.length) (Nat.le_refl μ.nx)).put s.dst (hcv μ.blks.length (Nat.lt_succ_self _))
        simpa using this
    · simp only [hg, hso] at hawp
  | e q => rw [hso] at heff; cases heff
  | call f args => rw [hso] at heff; cases heff
  | callv x args => rw [hso] at heff; cases heff
  | inv x m args => rw [hso] at heff; cases heff
  | panic x => rw [hso] at heff; cases heff
  | isnil kd x b => rw [hso] at heff; cases heff
end
end
end Go.Proofs.YtjleeecaebgblaaGreatDoor.AL
namespace Go.Proofs.YtjleeecaebgblaaGreatDoor.AL
open Go.RowKit
section
variable {P : Program} {N n : Nat} {ro : Option Nat} {g0 : Gh} {w0 : World} {μ0 : AMem}
variable {mu : Nat → Bool} {ops : Array Oper} {B : List (List Nat)} {K : AK} {E E' : AE} {ds : List Nat}
section
variable (hB : befOk ops B = true) (hN : namesOk ops B = true) (hEE : E = hideE ds E') (hds : ∀ (i : Nat) (o : Oper), ops[i]? = some o → ∀ d, o.dst = some d → d ∈ ds)
include hB hN hEE hds
/-- AN EFFECT IS TAKEN. -/
theorem DI.effect {lc : Array Bool} {done : List Nat} {s : AStep} {o : Oper} {steps rest : List DStep} {pd : Pend} {A : ATmps} {μ : AMem} {g : Gh} {U : List Ent} {la : Array Bool} {a : Act} {w : World}
    (h : DI P N n ro g0 w0 μ0 mu ops B K E lc done steps pd A μ g U la a w) (ho : ops[s.i]? = some o) (hmk : mkStep P N mu ops s.i = some { s with rd := [], rc := [] }) (hrd : s.rd = opTmps ops o) (hready : s.i ∈ Region.ready .any ops lc) (heff : s.op.eff = true)
    (hrc : s.rc = done.filter (fun j => !(B.getD s.i []).contains j)) (hord : OrdOk P N mu ops B (lc.setIfInBounds s.i true) done rest) (hawp : stepD P E s (stepsD P E K rest) pd A μ) (hr : s.i ∈ Region.ready .any ops la) {K' : AK} :
    wpOpIn (wideF ro) n P ops (Post P N g0 w0 μ0 K' E') s.i (DX P N n ro g0 w0 μ0 mu ops B K E (la.setIfInBounds s.i true)) a w := by
  obtain ⟨o', ho', hnl, hpre⟩ := (ready_iff h.slc).1 hready
  rw [ho] at ho'; cases ho'
  obtain ⟨o', ho', hnla, hprea⟩ := (ready_iff h.sla).1 hr
  rw [ho] at ho'; cases ho'
  have hlt : s.i < lc.size := by rw [h.slc]; exact (Array.getElem?_eq_some_iff.1 ho).1
  have hlta : s.i < la.size := by rw [h.sla]; exact (Array.getElem?_eq_some_iff.1 ho).1
  obtain ⟨_, ho2, _, hdst, hdok, hop, hguard⟩ := mkStep_spec hmk
  rw [ho] at ho2; cases ho2
  simp only at hdst hop hguard
  have hd := mkOp_defer hop
  have hnotin : ∀ u ∈ U, u.i ≠ s.i := fun u hu e => hnl (e ▸ (h.u1 u hu).1)
  have hback : ∀ u ∈ U, s.i ∉ B.getD u.i [] := fun u hu hb => by
    obtain ⟨ou, hou, _⟩ := (h.uok u hu).oper
    exact hnl (before_listed hB h.clc u.i ou hou (fun e he hb => h.clc u.i ou (h.u1 u hu).1 hou e he hb) s.i hb)
  have hfore : ∀ u ∈ U, u.i ∉ B.getD s.i [] := fun u hu hb => (h.u1 u hu).2 (before_listed hB h.cla s.i o ho hprea u.i hb)
  -- nobody else writes what s looks at
  have hfree : ∀ t, t ∈ s.rd → ∀ u ∈ U, u.d ≠ some t := fun t ht u hu hdu => by
    obtain ⟨ou, hou, hud, _⟩ := (h.uok u hu).oper
    rcases (names_spec hN hou ho (hnotin u hu)).1 t (by rw [← hud]; exact hdu) (by rw [← hrd]; exact ht) with hb | hb
    · exact hfore u hu hb
    · exact hback u hu hb
  have hfree2 : ∀ u ∈ U, ∀ t, t ∈ u.rd → s.dst ≠ some t := fun u hu t ht hds => by
    obtain ⟨ou, hou, _, _, hurd⟩ := (h.uok u hu).oper
    rcases (names_spec hN ho hou (Ne.symm (hnotin u hu))).1 t (by rw [← hdst]; exact hds) (by rw [← hurd]; exact ht) with hb | hb
    · exact hback u hu hb
    · exact hfore u hu hb
  have ht : TR N g (rsA s.rd A) a := by
    refine ⟨h.sz, fun t => ?_⟩
    unfold rsA
    split
    · rename_i hm
      exact h.val t (hfree t hm)
    · simp [VR]
  have hchk : ∀ μ', (μ' = μ ∨ rechk s.rc pd μ') → ∀ u ∈ U, u.chk μ' := by
    intro μ' hor u hu
    rcases hor with rfl | hre
    · exact h.uch u hu
    · refine rechk_mem hre (u.i, u.chk) (h.upd u hu) ?_
      rw [hrc]
      refine List.mem_filter.2 ⟨h.udn u hu, ?_⟩
      have : (B.getD s.i []).contains u.i = false := by
        cases hc : (B.getD s.i []).contains u.i with
        | false => rfl
        | true => exact absurd (List.contains_iff_mem.1 hc) (hfore u hu)
      rw [this]; rfl
  have fin : ∀ (v : AVal) (cv : Value) (μ' : AMem) (g' : Gh) (w' : World), (μ' = μ ∨ rechk s.rc pd μ') → stepsD P E K rest pd (put A s.dst v) μ' → St g w μ g' w' μ' → Sim P g' w' μ' → VR g' v cv → WFm μ' → Clean μ'.blks.length μ'.nx v → μ.nx ≤ μ'.nx → μ'.df = μ.df →
      DX P N n ro g0 w0 μ0 mu ops B K E (la.setIfInBounds s.i true) (a.put o.dst cv) w' := by
    intro v cv μ' g' w' hre hk hst' hsim' hv hwf hcl hnx hdf
    have hj' := h.j.step hsim' hst' hwf hnx
    have hget := put_getD (a := a) h.sz hdok cv
    refine ⟨lc.setIfInBounds s.i true, done, rest, pd, put A s.dst v, μ', g', U, ?_⟩
    constructor
    · exact hord
    · exact hk
    · simpa using h.sla
    · simpa using h.slc
    · intro i hi
      rcases (isL_set hlta).1 hi with rfl | hi
      · exact (isL_set hlt).2 (.inl rfl)
      · exact (isL_set hlt).2 (.inr (h.sub i hi))
    · exact h.cla.set h.sla hr
    · exact h.clc.set h.slc hready
    · intro u hu
      refine ⟨(isL_set hlt).2 (.inr (h.u1 u hu).1), fun hl => ?_⟩
      rcases (isL_set hlta).1 hl with h1 | h1
      · exact hnotin u hu h1
      · exact (h.u1 u hu).2 h1
    · intro i hi
      rw [isL_set hlta]
      rcases (isL_set hlt).1 hi with rfl | hi
      · exact .inl (.inl rfl)
      · rcases h.u2 i hi with h1 | h1
        · exact .inl (.inr h1)
        · exact .inr h1
    · exact h.und
    · exact h.uok
    · exact hchk μ' hre
    · exact h.upd
    · exact h.udn
    · intro u hu id hid
      rw [hst'.agree id ((h.uok u hu).low id μ hid (h.uch u hu))]
      exact h.unw u hu id hid
    · exact h.unn
    · exact hj'
    · rw [put_size]; exact h.sz
    · intro t hne
      rw [hget, ← hdst]
      by_cases hds : s.dst = some t
      · rw [if_pos hds]
        have : put A s.dst v t = v := by rw [hds]; exact put_same _ _ _
        rw [this]; exact hv
      · rw [if_neg hds]
        have h2 : put A s.dst v t = A t := by
          cases hd : s.dst with
          | none => rfl
          | some d => exact put_ne _ _ _ _ (fun e => hds (by rw [hd, e]))
        rw [h2]
        exact VR.mono hst'.le _ _ (h.val t hne)
    · exact (h.cln.mono hst'.len hnx).put _ hcl
    · rw [put_defers, hdf]; exact DfR.mono hst'.le _ _ h.dfr
    · intro u hu t htu
      rcases h.rdv u hu t htu with h1 | h1
      · exact .inl h1
      · right
        rw [hget, ← hdst, if_neg (hfree2 u hu t htu)]
        exact VR.mono hst'.le _ _ h1
    · intro u hu t htu
      obtain ⟨ou, hou, hud, _⟩ := (h.uok u hu).oper
      have := (names_spec hN hou ho (hnotin u hu)).2 t (by rw [← hud]; exact htu)
      have h2 : put A s.dst v t = A t := by
        cases hd : s.dst with
        | none => rfl
        | some d => exact put_ne _ _ _ _ (fun e => this (by rw [← hdst, hd, e]))
      rw [h2]; exact h.dv u hu t htu
    · exact h.dvr
  have pan : ∀ g', g.le g' → TR N g' (hideA ds A) a ∧ True := fun g' hle => ⟨⟨h.sz, fun t => by
    unfold hideA
    split
    · simp [VR]
    · rename_i hn
      refine VR.mono hle _ _ (h.val t fun u hu hdu => hn ?_)
      obtain ⟨ou, hou, hud, _⟩ := (h.uok u hu).oper
      exact List.contains_iff_mem.2 (hds _ ou hou t (by rw [← hud]; exact hdu))⟩, trivial⟩
  have pan2 : ∀ μ' : AMem, μ.blks.length ≤ μ'.blks.length → μ.nx ≤ μ'.nx → CleanA μ'.blks.length μ'.nx (hideA ds A) := fun μ' h1 h2 t => by
    unfold hideA
    split
    · simp [Clean]
    · exact (h.cln.mono h1 h2) t
  have hj := h.j
  unfold stepD at hawp
  unfold wpOpIn
  simp only [ho]
  rcases hguard with ⟨hgo, hg⟩ | ⟨jj, want, t, hgo, hjt, htN, hg⟩
  · have hw : Region.wanted o (yielded ops a.tmps) = true := by simp [Region.wanted, hgo]
    rw [if_pos hw]
    have after : aCall P s.op (rsA s.rd A) μ (fun o' μ' => (μ' = μ ∨ rechk s.rc pd μ') ∧ afterCallD s.dst A (stepsD P E K rest pd) E o' μ') →
        o.wpIn (wideF ro) n P a w (DX P N n ro g0 w0 μ0 mu ops B K E (la.setIfInBounds s.i true)) (Post P N g0 w0 μ0 K' E') := by
      intro hc
      refine run_aCall hj.sim hj.wf ht (h.cln.rs _) hop hc ?_ ?_
      · intro v μ' g' w' cv hq hst' hsim' hv hwf hcl hnx hdf
        exact fin v cv μ' g' w' hq.1 hq.2 hst' hsim' hv hwf hcl hnx hdf
      · intro v μ' g' w' cv hq hst' hsim' hv hwf hcl hnx hdf
        exact ⟨hideA ds A, μ', g', v, cv, rfl, (by have := hq.2; rw [hEE] at this; exact this), hj.step hsim' hst' hwf hnx, (pan g' hst'.le).1, pan2 μ' hst'.len hnx, by rw [hdf]; exact DfR.mono hst'.le _ _ h.dfr, hv, hcl⟩
    cases hso : s.op with
    | q q => rw [hso] at heff; cases heff
    | n q => rw [hso] at heff; cases heff
    | e q =>
      simp only [hg, hso] at hawp
      rw [hso] at hop
      obtain ⟨hok, hre, hk⟩ := hawp
      obtain ⟨nx, cv, w', g', hrun, hn, hv, hsim', hst'⟩ := run_E hj.sim ht (mkOp_e hop) hok
      obtain ⟨hcl, hwf, hlen, hnx⟩ := Clean_E hj.wf (h.cln.rs _) (resE_closed (mkOp_e hop)) hok
      have hf := fin _ cv _ g' w' (.inr hre) hk hst' hsim' hv hwf hcl hnx E_df
      rcases hn with rfl | ⟨rfl, rfl⟩
      · exact upon_value hd hrun hf
      · exact upon_skip hd hrun hf
    | isnil kd x b => simp only [hg, hso] at hawp
    | call f args => simp only [hg, hso] at hawp; rw [← hso] at hawp; exact after hawp
    | callv x args => simp only [hg, hso] at hawp; rw [← hso] at hawp; exact after hawp
    | inv x m args => simp only [hg, hso] at hawp; rw [← hso] at hawp; exact after hawp
    | panic x => simp only [hg, hso] at hawp; rw [← hso] at hawp; exact after hawp
  · have guarded : (rg (gdR want (rsA s.rd A t)) fun p =>
        (∃ v, Clean μ.blks.length μ.nx v ∧ (p = true → aCall P s.op (stripA p (rsA s.rd A)) μ (fun o' μ' => o' = .ret v ∧ μ' = μ)) ∧ stepsD P E K rest pd (put A s.dst (.opt p v)) μ) ∨
        ((p = true → aCall P s.op (stripA p (rsA s.rd A)) μ fun o' μ' => (μ' = μ ∨ rechk s.rc pd μ') ∧ afterCallD s.dst A (stepsD P E K rest pd) E o' μ') ∧ (p = false → stepsD P E K rest pd (put A s.dst (.opt false (.lit (.bool false)))) μ))) →
        (if Region.wanted o (yielded ops a.tmps) = true then o.wpIn (wideF ro) n P a w (DX P N n ro g0 w0 μ0 mu ops B K E (la.setIfInBounds s.i true)) (Post P N g0 w0 μ0 K' E')
          else (∀ f, o.about P w a.eval = some f → (wideF ro).fn f) ∧ DX P N n ro g0 w0 μ0 mu ops B K E (la.setIfInBounds s.i true) (a.put o.dst undef) w) := by
      intro hc
      obtain ⟨hgok, hc⟩ := hc
      have hw := wanted_spec ht hgo hjt htN hgok
      rcases hc with ⟨v, h0, h1, h2⟩ | ⟨h1, h2⟩
      rotate_left
      · generalize hp : (gdR want (rsA s.rd A t)).b = p at hw h1 h2
        cases p with
        | false =>
          rw [if_neg (by rw [hw]; simp)]
          exact ⟨fun _ _ => trivial, fin (.opt false (.lit (.bool false))) undef μ g w (.inl rfl) (h2 rfl) (.refl _ _ _) hj.sim (by simp [VR]) hj.wf (by simp [Clean]) (Nat.le_refl _) rfl⟩
        | true =>
          rw [if_pos hw]
          refine run_aCall hj.sim hj.wf (ht.strip rfl) ((h.cln.rs _).strip _) hop (h1 rfl) ?_ ?_
          · intro v μ' g' w' cv hq hst' hsim' hv hwf hcl hnx hdf
            exact fin v cv μ' g' w' hq.1 hq.2 hst' hsim' hv hwf hcl hnx hdf
          · intro v μ' g' w' cv hq hst' hsim' hv hwf hcl hnx hdf
            exact ⟨hideA ds A, μ', g', v, cv, rfl, (by have := hq.2; rw [hEE] at this; exact this), hj.step hsim' hst' hwf hnx, (pan g' hst'.le).1, pan2 μ' hst'.len hnx, by rw [hdf]; exact DfR.mono hst'.le _ _ h.dfr, hv, hcl⟩
      generalize hp : (gdR want (rsA s.rd A t)).b = p at hw h1 h2
      cases p with
      | false =>
        rw [if_neg (by rw [hw]; simp)]
        exact ⟨fun _ _ => trivial, fin (.opt false v) undef μ g w (.inl rfl) h2 (.refl _ _ _) hj.sim (by simp [VR]) hj.wf (by simpa [Clean] using h0) (Nat.le_refl _) rfl⟩
      | true =>
        rw [if_pos hw]
        refine run_aCall hj.sim hj.wf (ht.strip rfl) ((h.cln.rs _).strip _) hop (h1 rfl) ?_ ?_
        · intro v' μ' g' w' cv hq hst' hsim' hv hwf hcl hnx hdf
          obtain ⟨e1, rfl⟩ := hq
          cases e1
          exact fin (.opt true v) cv _ g' w' (.inl rfl) h2 hst' hsim' (by simp only [VR]; exact ⟨fun _ => hv, by simp⟩) hwf (by simpa [Clean] using hcl) hnx hdf
        · intro v' μ' g' w' cv hq hst' hsim' hv hwf hcl hnx hdf
          cases hq.1
    cases hso : s.op with
    | q q => rw [hso] at heff; cases heff
    | n q => rw [hso] at heff; cases heff
    | e q => simp only [hg, hso] at hawp
    | isnil kd x b => simp only [hg, hso] at hawp
    | call f args => simp only [hg, hso] at hawp; rw [← hso] at hawp; exact guarded hawp
    | callv x args => simp only [hg, hso] at hawp; rw [← hso] at hawp; exact guarded hawp
    | inv x m args => simp only [hg, hso] at hawp; rw [← hso] at hawp; exact guarded hawp
    | panic x => simp only [hg, hso] at hawp; rw [← hso] at hawp; exact guarded hawp
/-- An effect, or two, come next. -/
def nextEff : List DStep → Prop
  | [] => True
  | .one s :: _ => s.op.eff = true
  | .two _ _ :: _ => True
omit hEE hds in
/-- As far ahead as may be. -/
theorem DI.all : ∀ {steps : List DStep} {lc : Array Bool} {done : List Nat} {pd : Pend} {A : ATmps} {μ : AMem} {g : Gh} {U : List Ent} {la : Array Bool} {a : Act} {w : World},
    DI P N n ro g0 w0 μ0 mu ops B K E lc done steps pd A μ g U la a w →
    ∃ lc done steps pd A μ U, DI P N n ro g0 w0 μ0 mu ops B K E lc done steps pd A μ g U la a w ∧ nextEff steps
  | [], _, _, _, _, _, _, _, _, _, _, h => ⟨_, _, _, _, _, _, _, h, trivial⟩
  | .two s t :: rest, _, _, _, _, _, _, _, _, _, _, h => ⟨_, _, _, _, _, _, _, h, trivial⟩
  | .one s :: rest, _, _, _, _, _, _, _, _, _, _, h => by
    cases he : s.op.eff with
    | true => exact ⟨_, _, _, _, _, _, _, h, he⟩
    | false =>
      obtain ⟨_, _, _, _, _, _, h'⟩ := h.ahead hB hN he
      exact DI.all h'
theorem DX.run (hE : edgesOk ops = true) : ∀ (fuel : Nat) (la : Array Bool) (a : Act) (w : World), cntF la = fuel → DX P N n ro g0 w0 μ0 mu ops B K E la a w → wpAnyIn (wideF ro) n P .any ops (Post P N g0 w0 μ0 K E') fuel la a w := by
  intro fuel
  induction fuel with
  | zero =>
    intro la a w hc hx
    obtain ⟨_, _, _, _, _, _, g, _, h0⟩ := hx
    obtain ⟨lc, _, steps, _, A, μ, U, h, hs⟩ := h0.all hB hN
    have hall := cntF_zero hc
    have hnil : Region.ready .any ops la = [] := List.eq_nil_iff_forall_not_mem.2 fun i hi => by
      obtain ⟨o, ho, hn, _⟩ := (ready_iff h.sla).1 hi
      exact hn (hall i (by rw [h.sla]; exact (Array.getElem?_eq_some_iff.1 ho).1))
    refine ⟨hnil, ?_⟩
    have hU : U = [] := by
      cases U with
      | nil => rfl
      | cons u U =>
        have h1 := h.u1 u List.mem_cons_self
        obtain ⟨o, ho, _⟩ := (h.uok u List.mem_cons_self).oper
        exact absurd (hall u.i (by rw [h.sla]; exact (Array.getElem?_eq_some_iff.1 ho).1)) h1.2
    subst hU
    have hno : Region.ready .any ops lc = [] := List.eq_nil_iff_forall_not_mem.2 fun i hi => by
      obtain ⟨o, ho, hn, _⟩ := (ready_iff h.slc).1 hi
      exact hn (h.sub _ (hall i (by rw [h.sla]; exact (Array.getElem?_eq_some_iff.1 ho).1)))
    have hst : steps = [] := by
      cases h.ord with
      | nil => rfl
      | quiet _ _ s _ _ _ _ _ h4 => rw [hno] at h4; cases h4
      | eff _ _ s _ _ _ _ _ h4 => rw [hno] at h4; cases h4
      | two _ _ s t _ _ _ _ _ _ _ _ _ _ _ _ _ h4 => rw [hno] at h4; cases h4
    subst hst
    have := h.awp
    simp only [stepsD] at this
    exact ⟨A, μ, this, g, h.j, ⟨h.sz, fun t => h.val t (by simp)⟩, h.cln, h.dfr⟩
  | succ fuel ih =>
    intro la a w hc hx
    obtain ⟨_, _, _, _, _, _, g, _, h0⟩ := hx
    obtain ⟨lc, done, steps, _, A, μ, U, h, hs⟩ := h0.all hB hN
    refine ⟨fun hnil => ?_, fun i hi => ?_⟩
    · have hall := ready_nil hE h.sla hnil
      exfalso
      have : cntF la = 0 := by
        unfold cntF
        refine List.count_eq_zero.2 fun hm => ?_
        obtain ⟨i, hi, e⟩ := List.getElem_of_mem hm
        have h1 := hall i (by rw [← h.sla]; simpa using hi)
        unfold isL at h1
        rw [Array.getElem?_eq_getElem (by simpa using hi)] at h1
        simp at e h1
        rw [e] at h1; cases h1
      omega
    · obtain ⟨o, ho, hn, hpre⟩ := (ready_iff h.sla).1 hi
      have hlt : i < la.size := by rw [h.sla]; exact (Array.getElem?_eq_some_iff.1 ho).1
      have hcnt := cntF_set hlt hn
      have next : ∀ a w, DX P N n ro g0 w0 μ0 mu ops B K E (la.setIfInBounds i true) a w → wpAnyIn (wideF ro) n P .any ops (Post P N g0 w0 μ0 K E') fuel (la.setIfInBounds i true) a w := fun a w => ih _ a w (by omega)
      by_cases hl : isL lc i
      · rcases h.u2 i hl with h1 | ⟨u, hu, rfl⟩
        · exact absurd h1 hn
        · exact wpOpIn_mono next (h.take hB hN hu hi)
      · have hic : i ∈ Region.ready .any ops lc := (ready_iff h.slc).2 ⟨o, ho, hl, fun e he hb => h.sub _ (hpre e he hb)⟩
        have hawp := h.awp
        cases hord : h.ord with
        | nil _ _ h1 => rw [h1] at hic; cases hic
        | quiet _ _ s q rest _ _ _ _ h5 => simp only [nextEff] at hs; rw [hs] at h5; cases h5
        | eff _ _ s q rest h1 h2 h3 h4 h5 h6 h7 =>
          rw [h4] at hic
          obtain rfl : i = s.i := by simpa using hic
          exact wpOpIn_mono next (h.effect hB hN hEE hds h1 h2 h3 (by rw [h4]; simp) h5 h6 h7 hawp hi)
        | two _ _ s t q q' rest h1 h2 h3 h4 h5 k1 k2 k3 k4 k5 r1 r2 r3 r4 =>
          have hcomm : (lc.setIfInBounds s.i true).setIfInBounds t.i true = (lc.setIfInBounds t.i true).setIfInBounds s.i true := by
            apply Array.ext_getElem?
            intro x
            simp only [Array.getElem?_setIfInBounds, Array.size_setIfInBounds]
            by_cases hxs : s.i = x <;> by_cases hxt : t.i = x <;> simp [hxs, hxt]
          simp only [stepsD] at hawp
          rw [r1] at hic
          rcases List.mem_cons.1 hic with rfl | hic
          · exact wpOpIn_mono next (h.effect hB hN hEE hds h1 h2 h3 (by rw [r1]; simp) h4 h5 (.eff _ _ t q' rest k1 k2 k3 r2 k4 k5 r4) hawp.1 hi)
          · obtain rfl : i = t.i := by simpa using hic
            exact wpOpIn_mono next (h.effect hB hN hEE hds k1 k2 k3 (by rw [r1]; simp) k4 k5 (.eff _ _ s q rest h1 h2 h3 r3 h4 h5 (by rw [← hcomm]; exact r4)) hawp.2 hi)
end
/-- A REGION THAT DRAWS ITS ORDER. -/
theorem draw_sound {id : Nat} {steps : List DStep} (hmk : mkDraw P N mu ops = some steps) (hm : P.follows .mixedOrders = true) {A : ATmps} {μ : AMem} {a : Act} {w : World} (h : stepsD P (hideE (dstsD steps) E) K steps [] A μ) (hst : ASt P N g0 w0 μ0 A μ a w) :
    (Code.region id ops true).wpIn (wideF ro) n P (Post P N g0 w0 μ0 K E) a w := by
  unfold mkDraw at hmk
  simp only at hmk
  split at hmk
  case isFalse => cases hmk
  rename_i hc
  simp only [Bool.and_eq_true] at hc
  obtain ⟨⟨hB, hN⟩, hE⟩ := hc
  split at hmk
  case h_2 => cases hmk
  rename_i l hlz
  split at hmk
  case isFalse => cases hmk
  rename_i hdo
  cases hmk
  have hmk := hlz
  have hds : ∀ (i : Nat) (o : Oper), ops[i]? = some o → ∀ d, o.dst = some d → d ∈ dstsD steps := fun i o ho d hd => by
    have := List.all_eq_true.1 hdo o (Array.mem_toList_iff.2 (Array.mem_of_getElem? ho))
    rw [hd] at this
    exact List.contains_iff_mem.1 this
  obtain ⟨g, hj, ht, hcl, hD⟩ := hst
  have hdr := Sim.drew hj.sim (w' := { w with drawn := w.drawn + 1 }) rfl rfl rfl rfl
  have hj' := hj.step hdr.1 hdr.2 hj.wf (Nat.le_refl _)
  have hno : ∀ i, ¬ isL (Array.replicate ops.size false) i := fun i hi => by
    unfold isL at hi
    rw [Array.getElem?_replicate] at hi
    split at hi <;> simp at hi
  refine wpIn_region_any hm (DX.run (mu := mu) hB hN (ds := dstsD steps) rfl hds hE ops.size _ a _ ?_ ⟨Array.replicate ops.size false, [], steps, [], A, μ, g, [], ?_⟩)
  · unfold cntF; simp
  · exact {
      ord := lazy_ok _ _ _ _ hmk, awp := h, sla := by simp, slc := by simp, sub := fun i hi => hi, cla := fun i o hi => absurd hi (hno i), clc := fun i o hi => absurd hi (hno i),
      u1 := by simp, u2 := fun i hi => absurd hi (hno i), und := by simp, uok := by simp, uch := by simp, upd := by simp, udn := by simp, unw := by simp, unn := by simp,
      j := hj', sz := ht.size, val := fun t _ => ht.val t, cln := hcl, dfr := hD, rdv := by simp, dv := by simp, dvr := by simp }
end
end Go.Proofs.YtjleeecaebgblaaGreatDoor.AL
