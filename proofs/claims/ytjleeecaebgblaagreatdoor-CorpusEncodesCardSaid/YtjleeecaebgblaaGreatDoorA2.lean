/- Slices that grow; maps. -/
import Derived.Test.YtjleeecaebgblaaGreatDoorA1
set_option linter.all false
namespace Go.Proofs.YtjleeecaebgblaaGreatDoor.AL
open Go.RowKit
/-- The live stamps without the one that a slice gives up when it is appended to. -/
def appLv (lv : List Nat) : Tk → List Nat
  | .own r _ => lv.erase r
  | _ => lv
def CanApp (e : TypeId) (lv : List Nat) : Tk → Prop
  | .full => True
  | .own s e' => e' = e ∧ s ∈ lv
  | .no => False
  | .row => False
theorem fresh_stamp {P : Program} {g : Gh} {w : World} {μ : AMem} (h : Sim P g w μ) : g.T μ.nx = none ∧ μ.nx ∉ μ.lv :=
  ⟨h.tf _ (Nat.le_refl _), fun hs => Nat.lt_irrefl _ (h.ll _ hs)⟩
/-- g, with a stamp for what a stamp stood for. -/
def Gh.stamp (g : Gh) (s : Nat) (x : Option (Nat × Nat × Nat × TypeId)) : Gh := { g with T := fun r => if r = s then x else g.T r }
/-- THE RIGHT TO APPEND GOES TO A NEW STAMP. -/
theorem Sim.stamp {P : Program} {g : Gh} {w : World} {μ : AMem} (h : Sim P g w μ) (lv' : List Nat) (hlv : ∀ r, r ∈ lv' → r ∈ μ.lv) (hnd : lv'.Nodup) (x : Option (Nat × Nat × Nat × TypeId)) (hx : ∀ y, x = some y → ∃ r, r ∈ μ.lv ∧ r ∉ lv' ∧ g.T r = some y) :
    Sim P (g.stamp μ.nx x) w { μ with lv := μ.nx :: lv', nx := μ.nx + 1 } ∧ St g w μ (g.stamp μ.nx x) w { μ with lv := μ.nx :: lv', nx := μ.nx + 1 } := by
  obtain ⟨hs, hsl⟩ := fresh_stamp h
  have hT : ∀ r y, (g.stamp μ.nx x).T r = some y → (r = μ.nx ∧ ∃ q, q ∈ μ.lv ∧ q ∉ lv' ∧ g.T q = some y) ∨ (r ≠ μ.nx ∧ g.T r = some y) := by
    intro r y ht
    simp only [Gh.stamp] at ht
    split at ht
    · exact .inl ⟨by assumption, hx y ht⟩
    · exact .inr ⟨by assumption, ht⟩
  have hle : g.le (g.stamp μ.nx x) := ⟨fun _ _ e => e, fun _ _ _ e => e, fun r y e => by
    simp only [Gh.stamp]; split
    · subst_vars; rw [hs] at e; cases e
    · exact e, fun _ _ e => e⟩
  have mem : ∀ r, r ∈ μ.nx :: lv' → r ≠ μ.nx → r ∈ lv' := fun r hr hne => by
    rcases List.mem_cons.1 hr with rfl | hr
    · exact absurd rfl hne
    · exact hr
  constructor
  · constructor
    · exact h.lt
    · exact h.inj
    · exact h.cpl
    · intro i b k e hk; exact BR.mono hle rfl (h.blk i b k e hk)
    · exact h.imm
    · exact h.sep
    · intro s b c n e ht
      rcases hT s _ ht with ⟨_, q, _, _, hq⟩ | ⟨_, ht⟩
      · exact h.tlt q b c n e hq
      · exact h.tlt s b c n e ht
    · intro s b c n e hs' ht
      rcases hT s _ ht with ⟨_, q, hq1, _, hq⟩ | ⟨hne, ht⟩
      · exact h.tk q b c n e hq1 hq
      · exact h.tk s b c n e (hlv _ (mem s hs' hne)) ht
    · intro s b c n e i k hs' ht hi hk
      rcases hT s _ ht with ⟨_, q, hq1, _, hq⟩ | ⟨hne, ht⟩
      · exact h.tsep q b c n e i k hq1 hq hi hk
      · exact h.tsep s b c n e i k (hlv _ (mem s hs' hne)) ht hi hk
    · intro s s' b c n e c' n' e' hs1 hs2 ht ht'
      rcases hT s _ ht with ⟨h1, q, hq1, hq2, hq⟩ | ⟨hne, hu⟩ <;> rcases hT s' _ ht' with ⟨h1', q', hq1', hq2', hq'⟩ | ⟨hne', hu'⟩
      · rw [h1, h1']
      · have := h.tinj q s' b c n e c' n' e' hq1 (hlv _ (mem s' hs2 hne')) hq hu'
        subst this; exact absurd (mem _ hs2 hne') hq2
      · have := h.tinj q' s b c' n' e' c n e hq1' (hlv _ (mem s hs1 hne)) hq' hu
        subst this; exact absurd (mem _ hs1 hne) hq2'
      · exact h.tinj s s' b c n e c' n' e' (hlv _ (mem s hs1 hne)) (hlv _ (mem s' hs2 hne')) hu hu'
    · exact List.nodup_cons.2 ⟨fun hx => hsl (hlv _ hx), hnd⟩
    · intro s hs'
      rcases List.mem_cons.1 hs' with rfl | hs'
      · exact Nat.lt_succ_self _
      · exact Nat.lt_succ_of_lt (h.ll s (hlv s hs'))
    · intro s hs'
      simp only [Gh.stamp]
      rw [if_neg (by simp only at hs'; omega)]
      exact h.tf s (by simp only at hs'; omega)
    · intro b cs e; exact VC.mono hle _ _ _ (h.gl b cs e)
  · refine ⟨hle, fun _ _ => rfl, Nat.le_refl _, fun _ _ _ _ => rfl, .refl _ _ _, fun b hb ho => ?_⟩
    rcases ho with ⟨i, hi⟩ | ⟨q, hq, c', n', e', ht⟩
    · exact .inl ⟨i, hi⟩
    · rcases hT q _ ht with ⟨_, r, hr, _, ht⟩ | ⟨hne, ht⟩
      · exact .inr ⟨r, hr, c', n', e', ht⟩
      · exact .inr ⟨q, hlv q (mem q hq hne), c', n', e', ht⟩
/-- g, with cells of block b from o on known for good, and stamp s for its row. -/
def Gh.grow (g : Gh) (b o : Nat) (vs : List Value) (s : Nat) (x : Nat × Nat × Nat × TypeId) : Gh :=
  { g with H := fun c p => if c = b ∧ o ≤ p ∧ p < o + vs.length then vs[p - o]? else g.H c p, T := fun r => if r = s then some x else g.T r }
theorem Gh.le_grow {g : Gh} {b o : Nat} {vs : List Value} {s : Nat} {x : Nat × Nat × Nat × TypeId} (h : ∀ p, o ≤ p → g.H b p = none) (hs : g.T s = none) : g.le (g.grow b o vs s x) :=
  ⟨fun _ _ e => e, fun c p v e => by
    simp only [Gh.grow]; split
    · rename_i hc
      rw [hc.1, h p hc.2.1] at e; cases e
    · exact e,
   fun r y e => by
    simp only [Gh.grow]; split
    · subst_vars; rw [hs] at e; cases e
    · exact e, fun _ _ e => e⟩
theorem VC_grow {g : Gh} {b o : Nat} {vs : List Value} {s : Nat} {x : Nat × Nat × Nat × TypeId} {cs : List AVal} (h : VRs (g.grow b o vs s x) cs vs) : VC (g.grow b o vs s x) b o cs :=
  VC.of fun i a hi => by
    obtain ⟨v, e, r⟩ := h.get i a hi
    have hl := (List.getElem?_eq_some_iff.1 e).1
    exact ⟨v, by rw [← e]; simp [Gh.grow, hl], r⟩
/-- A ROW GROWS IN A NEW BLOCK. -/
theorem Sim.newRow {P : Program} {g : Gh} {w w1 : World} {μ : AMem} (h : Sim P g w μ) (hh : w1.heap = w.heap) (hos : w1.os = w.os) (htp : w1.tape = w.tape) (hou : w1.output = w.output)
    (vs rest : List Value) (e : TypeId) (cap : Nat) (hsz : (vs ++ rest).length = cap * P.cellsOf e) (lv' : List Nat) (hlv : ∀ r, r ∈ lv' → r ∈ μ.lv) (hnd : lv'.Nodup) :
    let g' := g.grow w.heap.size 0 vs μ.nx (w.heap.size, cap, vs.length, e)
    let w' := w1.alloc (.cells ⟨vs ++ rest⟩ e)
    let μ' : AMem := { μ with lv := μ.nx :: lv', nx := μ.nx + 1 }
    Sim P g' w' μ' ∧ St g w μ g' w' μ' := by
  obtain ⟨hs, hsl⟩ := fresh_stamp h
  generalize hsn : μ.nx = s at hs hsl ⊢
  have hn : s ∉ lv' := fun hx => hsl (hlv _ hx)
  intro g' w' μ'
  have hle : g.le g' := Gh.le_grow (fun p _ => h.H_new _ _ (Nat.le_refl _)) hs
  have hnew : w'.heap[w.heap.size]? = some (.cells ⟨vs ++ rest⟩ e) := by
    have := heap_alloc_new' w1 (.cells ⟨vs ++ rest⟩ e); rw [hh] at this; exact this
  have hold : ∀ b, b < w.heap.size → w'.heap[b]? = w.heap[b]? := fun b hb => by
    rw [heap_alloc_old w1 _ (by rw [hh]; exact hb), hh]
  have hsize : w'.heap.size = w.heap.size + 1 := by show (w1.alloc _).heap.size = _; rw [World.size_alloc, hh]
  have hT : ∀ r x, g'.T r = some x → (r = s ∧ x = (w.heap.size, cap, vs.length, e)) ∨ (r ≠ s ∧ g.T r = some x) := by
    intro r x ht
    simp only [g', Gh.grow] at ht
    split at ht
    · cases ht; exact .inl ⟨by assumption, rfl⟩
    · exact .inr ⟨by assumption, ht⟩
  have hH : ∀ b o, b < w.heap.size → g'.H b o = g.H b o := fun b o hb => by
    simp only [g', Gh.grow]; rw [if_neg (by omega)]
  constructor
  · constructor
    · intro i b e'; have := h.lt i b e'; exact ⟨this.1, by omega⟩
    · exact h.inj
    · exact h.cpl
    · intro i b k e' hk; exact BR.mono hle (hold b (h.lt i b e').2) (h.blk i b k e' hk)
    · intro b o x e'
      simp only [g', Gh.grow] at e'
      split at e'
      · rename_i hc
        obtain ⟨rfl, h0, h1⟩ := hc
        refine ⟨⟨vs ++ rest⟩, e, (0, 0), hnew, ?_⟩
        simp only [List.getElem?_toArray]
        rw [List.getElem?_append_left (by omega)]
        simpa using e'
      · obtain ⟨cs, t, fr, hb, hc⟩ := h.imm b o x e'
        exact ⟨cs, t, fr, (hold b (Array.getElem?_eq_some_iff.1 hb).1).trans hb, hc⟩
    · intro i b k o e' hk hd
      have := h.lt i b e'
      rw [hH b o this.2]; exact h.sep i b k o e' hk hd
    · intro r b c n e' ht
      rcases hT r _ ht with ⟨rfl, hx⟩ | ⟨_, ht⟩
      · cases hx; omega
      · have := h.tlt r b c n e' ht; omega
    · intro r b c n e' hr ht
      rcases hT r _ ht with ⟨rfl, hx⟩ | ⟨hne, ht⟩
      · cases hx
        refine ⟨⟨vs ++ rest⟩, hnew, by simpa using hsz, fun o ho => ?_⟩
        simp only [g', Gh.grow]; rw [if_neg (by omega)]; exact h.H_new _ _ (Nat.le_refl _)
      · rcases List.mem_cons.1 hr with rfl | hr
        · exact absurd rfl hne
        obtain ⟨cs, hb, hs', hn'⟩ := h.tk r b c n e' (hlv r hr) ht
        have hb' := h.tlt r b c n e' ht
        refine ⟨cs, (hold b hb').trans hb, hs', fun o ho => by rw [hH b o hb']; exact hn' o ho⟩
    · intro r b c n e' i k hr ht hi hk
      rcases hT r _ ht with ⟨rfl, hx⟩ | ⟨hne, ht⟩
      · cases hx; have := h.lt i _ hi; omega
      · rcases List.mem_cons.1 hr with rfl | hr
        · exact absurd rfl hne
        · exact h.tsep r b c n e' i k (hlv r hr) ht hi hk
    · intro r r' b c n e1 c' n' e2 hr hr' ht ht'
      rcases hT r _ ht with ⟨rfl, hx⟩ | ⟨hne, hu⟩ <;> rcases hT r' _ ht' with ⟨rfl, hx'⟩ | ⟨hne', hu'⟩
      · rfl
      · cases hx; have := h.tlt r' _ _ _ _ hu'; omega
      · cases hx'; have := h.tlt r _ _ _ _ hu; omega
      · rcases List.mem_cons.1 hr with rfl | hr
        · exact absurd rfl hne
        rcases List.mem_cons.1 hr' with rfl | hr'
        · exact absurd rfl hne'
        exact h.tinj r r' b c n e1 c' n' e2 (hlv r hr) (hlv r' hr') hu hu'
    · exact List.nodup_cons.2 ⟨hn, hnd⟩
    · intro r hr
      rcases List.mem_cons.1 hr with rfl | hr
      · show r < r + 1; omega
      · have := h.ll r (hlv r hr); show r < s + 1; omega
    · intro r hr
      have hr' : s + 1 ≤ r := hr
      simp only [g', Gh.grow]; rw [if_neg (by omega)]; exact h.tf r (by omega)
    · intro b cs e; exact VC.mono hle _ _ _ (h.gl b cs e)
  · refine ⟨hle, fun _ _ => rfl, Nat.le_refl _, fun b o hb _ => hH b o hb, ⟨?_, ?_, ?_, by omega, fun b hb _ => hold b hb⟩, fun b hb ho => ?_⟩
    · exact hos
    · exact htp
    · exact hou
    · rcases ho with ⟨i, hi⟩ | ⟨r, hr, c, n, e', ht⟩
      · exact .inl ⟨i, hi⟩
      · rcases hT r _ ht with ⟨rfl, hx⟩ | ⟨hne, ht⟩
        · cases hx; omega
        · rcases List.mem_cons.1 hr with rfl | hr
          · exact absurd rfl hne
          · exact .inr ⟨r, hlv r hr, c, n, e', ht⟩
/-- A ROW GROWS IN PLACE. -/
theorem Sim.growRow {P : Program} {g : Gh} {w : World} {μ : AMem} (h : Sim P g w μ) {r b c n : Nat} {e : TypeId} (hr : r ∈ μ.lv) (hT0 : g.T r = some (b, c, n, e)) (cs : Array Value)
    (hb0 : w.heap[b]? = some (.cells cs e (0, 0))) (vs : List Value) (hfit : n + vs.length ≤ cs.size) :
    let g' := g.grow b n vs μ.nx (b, c, n + vs.length, e)
    let w' := w.setRow b (cs.toList.take n ++ vs ++ cs.toList.drop (n + vs.length)).toArray
    let μ' : AMem := { μ with lv := μ.nx :: μ.lv.erase r, nx := μ.nx + 1 }
    Sim P g' w' μ' ∧ St g w μ g' w' μ' := by
  obtain ⟨hs, hsl⟩ := fresh_stamp h
  generalize hsn : μ.nx = s at hs hsl ⊢
  intro g' w' μ'
  obtain ⟨cs1, hb1, hsz1, hn1⟩ := h.tk r b c n e hr hT0
  rw [hb0] at hb1; cases hb1
  have hle : g.le g' := Gh.le_grow hn1 hs
  have hblt : b < w.heap.size := (Array.getElem?_eq_some_iff.1 hb0).1
  have hnew : w'.heap[b]? = some (.cells (cs.toList.take n ++ vs ++ cs.toList.drop (n + vs.length)).toArray e (0, 0)) := setRow_heap w b cs _ e (0, 0) hb0
  have hold : ∀ k, k ≠ b → w'.heap[k]? = w.heap[k]? := fun k hk => setRow_other w b k _ hk
  have hsize : w'.heap.size = w.heap.size := by simp [w']
  have hT : ∀ q x, g'.T q = some x → (q = s ∧ x = (b, c, n + vs.length, e)) ∨ (q ≠ s ∧ g.T q = some x) := by
    intro q x ht
    simp only [g', Gh.grow] at ht
    split at ht
    · cases ht; exact .inl ⟨by assumption, rfl⟩
    · exact .inr ⟨by assumption, ht⟩
  have hmem : ∀ q, q ∈ μ.lv.erase r → q ∈ μ.lv ∧ q ≠ r := fun q hq => ⟨List.mem_of_mem_erase hq, fun e => by subst e; exact (List.Nodup.not_mem_erase h.nd) hq⟩
  have hdead : ∀ i k, g.φ i = some b → μ.blks[i]? = some k → k.isDead = true := fun i k hi hk => h.tsep r b c n e i k hr hT0 hi hk
  have hbl : ∀ q b' c' n' e', q ∈ μ.lv → g.T q = some (b', c', n', e') → q ≠ r → b' ≠ b := fun q b' c' n' e' hq ht hne hb => by
    subst hb; exact hne (h.tinj q r b' c' n' e' c n e hq hr ht hT0)
  have hH : ∀ k o, k ≠ b → g'.H k o = g.H k o := fun k o hk => by simp only [g', Gh.grow]; rw [if_neg (by omega)]
  have hcell : ∀ o, o < n → (cs.toList.take n ++ vs ++ cs.toList.drop (n + vs.length))[o]? = cs[o]? := fun o ho => by
    have hl : o < (cs.toList.take n).length := by simp; omega
    rw [List.append_assoc, List.getElem?_append_left hl, List.getElem?_take, if_pos ho]; simp
  have hlen : (cs.toList.take n ++ vs ++ cs.toList.drop (n + vs.length)).length = cs.size := by simp; omega
  constructor
  · constructor
    · intro i k e'; have := h.lt i k e'; exact ⟨this.1, by omega⟩
    · exact h.inj
    · exact h.cpl
    · intro i k q e' hq
      by_cases hk : k = b
      · subst hk
        have := hdead i q e' hq
        cases q <;> first | (simp only [BR]; done) | cases this
      · exact BR.mono hle (hold k hk) (h.blk i k q e' hq)
    · intro k o x e'
      simp only [g', Gh.grow] at e'
      split at e'
      · rename_i hc
        obtain ⟨rfl, h0, h1⟩ := hc
        refine ⟨_, e, (0, 0), hnew, ?_⟩
        simp only [List.getElem?_toArray]
        have hl : n = (cs.toList.take n).length := by simp; omega
        rw [List.append_assoc, List.getElem?_append_right (by rw [← hl]; exact h0), ← hl, List.getElem?_append_left (by omega)]
        exact e'
      · rename_i hc
        by_cases hk : k = b
        · subst hk
          have ho : o < n := by
            rcases Nat.lt_or_ge o n with ho | ho
            · exact ho
            · rw [hn1 o ho] at e'; cases e'
          obtain ⟨cs', t, fr, hb, hc'⟩ := h.imm k o x e'
          rw [hb0] at hb; cases hb
          refine ⟨_, e, (0, 0), hnew, ?_⟩
          simp only [List.getElem?_toArray]
          rw [hcell o ho]; exact hc'
        · obtain ⟨cs', t, fr, hb, hc'⟩ := h.imm k o x e'
          exact ⟨cs', t, fr, (hold k hk).trans hb, hc'⟩
    · intro i k q o e' hq hd
      by_cases hk : k = b
      · subst hk; rw [hdead i q e' hq] at hd; cases hd
      · rw [hH k o hk]; exact h.sep i k q o e' hq hd
    · intro q k c' n' e' ht
      rcases hT q _ ht with ⟨rfl, hx⟩ | ⟨_, ht⟩
      · cases hx; omega
      · have := h.tlt q k c' n' e' ht; omega
    · intro q k c' n' e' hq ht
      rcases hT q _ ht with ⟨rfl, hx⟩ | ⟨hne, ht⟩
      · cases hx
        refine ⟨_, hnew, by simpa using hlen.trans hsz1, fun o ho => ?_⟩
        simp only [g', Gh.grow]; rw [if_neg (by omega)]; exact hn1 o (by omega)
      · rcases List.mem_cons.1 hq with rfl | hq
        · exact absurd rfl hne
        obtain ⟨hq, hne⟩ := hmem q hq
        obtain ⟨cs', hb, hs', hn'⟩ := h.tk q k c' n' e' hq ht
        have hk := hbl q k c' n' e' hq ht hne
        exact ⟨cs', (hold k hk).trans hb, hs', fun o ho => by rw [hH k o hk]; exact hn' o ho⟩
    · intro q k c' n' e' i x hq ht hi hx
      rcases hT q _ ht with ⟨rfl, hy⟩ | ⟨hne, ht⟩
      · cases hy; exact hdead i x hi hx
      · rcases List.mem_cons.1 hq with rfl | hq
        · exact absurd rfl hne
        · exact h.tsep q k c' n' e' i x (hmem q hq).1 ht hi hx
    · intro q q' k c1 n1 e1 c2 n2 e2 hq hq' ht ht'
      rcases hT q _ ht with ⟨rfl, hx⟩ | ⟨hne, hu⟩ <;> rcases hT q' _ ht' with ⟨rfl, hx'⟩ | ⟨hne', hu'⟩
      · rfl
      · cases hx
        rcases List.mem_cons.1 hq' with rfl | hq'
        · exact absurd rfl hne'
        · exact absurd rfl (hbl q' _ _ _ _ (hmem q' hq').1 hu' (hmem q' hq').2)
      · cases hx'
        rcases List.mem_cons.1 hq with rfl | hq
        · exact absurd rfl hne
        · exact absurd rfl (hbl q _ _ _ _ (hmem q hq).1 hu (hmem q hq).2)
      · rcases List.mem_cons.1 hq with rfl | hq
        · exact absurd rfl hne
        rcases List.mem_cons.1 hq' with rfl | hq'
        · exact absurd rfl hne'
        exact h.tinj q q' k c1 n1 e1 c2 n2 e2 (hmem q hq).1 (hmem q' hq').1 hu hu'
    · exact List.nodup_cons.2 ⟨fun hx => hsl (hmem s hx).1, h.nd.erase r⟩
    · intro q hq
      rcases List.mem_cons.1 hq with rfl | hq
      · show q < q + 1; omega
      · have := h.ll q (hmem q hq).1; show q < s + 1; omega
    · intro q hq
      have hq' : s + 1 ≤ q := hq
      simp only [g', Gh.grow]; rw [if_neg (by omega)]; exact h.tf q (by omega)
    · intro b cs e; exact VC.mono hle _ _ _ (h.gl b cs e)
  · refine ⟨hle, fun _ _ => rfl, Nat.le_refl _, fun k o _ ho => hH k o fun hk => ho (by subst hk; exact .inr ⟨r, hr, c, n, e, hT0⟩), ⟨rfl, rfl, rfl, by omega, fun k _ ho => hold k fun hk => ho ?_⟩, fun k hk ho => ?_⟩
    · subst hk; exact .inr ⟨r, hr, c, n, e, hT0⟩
    · rcases ho with ⟨i, hi⟩ | ⟨q, hq, c', n', e', ht⟩
      · exact .inl ⟨i, hi⟩
      · rcases hT q _ ht with ⟨rfl, hx⟩ | ⟨hne, ht⟩
        · cases hx; exact .inr ⟨r, hr, c, n, e, hT0⟩
        · rcases List.mem_cons.1 hq with rfl | hq
          · exact absurd rfl hne
          · exact .inr ⟨q, (hmem q hq).1, c', n', e', ht⟩
/-! ### the operation -/
def aBytes (l : List UInt8) : List AVal := l.map fun b => .lit (.int .u8 b.toNat)
def rowCs (μ : AMem) (id : Nat) : Option (List AVal) :=
  match μ.blks[id]? with
  | some (.cells _ cs) => some cs
  | some (.row _ cs) => some cs
  | _ => none
def asrc (μ : AMem) (sz : Nat) : AVal → Option (Nat × List AVal)
  | .sl m ds _ => some (m, ds)
  | .lit (.string s) => some (s.size, aBytes s.data.toList)
  | .ms id off m _ => match rowCs μ id with
    | some cs => if off + m * sz ≤ cs.length then some (m, (cs.drop off).take (m * sz)) else none
    | none => none
  | _ => none
/-- The element type of a slice type, the cells and bytes of an element: where 'append' of slices or strings goes through. -/
def isSrc : TypeDesc → Bool
  | .slice _ | .string => true
  | _ => false
def appInfo (P : Program) (t xT : TypeId) : Option (TypeId × Nat × Nat) :=
  match P.underlying t, P.underlying xT with
  | some (.slice e), some d => match P.info? e with
    | some i => match i.zero with
      | some z => if z.cells.size = i.size ∧ 0 < i.size ∧ 0 < i.bytes ∧ isSrc d = true then some (e, i.size, i.bytes) else none
      | none => none
    | none => none
  | _, _ => none
theorem appInfo_spec {P : Program} {t xT e : TypeId} {sz bytes : Nat} (h : appInfo P t xT = some (e, sz, bytes)) :
    ∃ i z d, P.underlying t = some (.slice e) ∧ P.underlying xT = some d ∧ ((∃ e', d = .slice e') ∨ d = .string) ∧ P.info? e = some i ∧ i.zero = some z ∧ z.cells.size = sz ∧ i.size = sz ∧ i.bytes = bytes ∧ 0 < sz ∧ 0 < bytes ∧ P.cellsOf e = sz := by
  unfold appInfo at h
  split at h <;> try (cases h; done)
  rename_i e' d hu hx
  split at h <;> try (cases h; done)
  rename_i i hi
  split at h <;> try (cases h; done)
  rename_i z hz
  split at h
  · rename_i hc
    simp only [Option.some.injEq, Prod.mk.injEq] at h
    obtain ⟨rfl, rfl, rfl⟩ := h
    refine ⟨i, z, d, hu, hx, ?_, hi, hz, hc.1, rfl, rfl, hc.2.1, hc.2.2.1, by simp [Program.cellsOf, hi]⟩
    have := hc.2.2.2
    cases d <;> first | exact .inl ⟨_, rfl⟩ | exact .inr rfl | (cases this; done)
  · cases h
theorem rowCs_spec {P : Program} {g : Gh} {w : World} {μ : AMem} (hs : Sim P g w μ) {id b : Nat} {cs : List AVal} (h : rowCs μ id = some cs) (hb : g.φ id = some b) :
    ∀ (i : Nat) (a : AVal), cs[i]? = some a → ∃ v, w.cell? ⟨b, i, none⟩ = some v ∧ VR g a v := by
  unfold rowCs at h
  split at h <;> cases h
  · rename_i hk
    have := hs.blk id b _ hb hk
    simp only [BR] at this
    obtain ⟨vs, hh, r⟩ := this
    intro i a hi
    obtain ⟨v, e', r'⟩ := r.get _ a hi
    exact ⟨v, by simp [World.cell?, hh, e'], r'⟩
  · rename_i hk
    have := hs.blk id b _ hb hk
    simp only [BR] at this
    obtain ⟨vs, sp, c, hh, r, _⟩ := this
    intro i a hi
    obtain ⟨v, e', r'⟩ := r.get _ a hi
    have hlt := (List.getElem?_eq_some_iff.1 e').1
    exact ⟨v, by simp only [World.cell?, hh, List.getElem?_toArray]; rw [List.getElem?_append_left hlt]; exact e', r'⟩
theorem cells_list {g : Gh} {w : World} {b : Nat} : ∀ (l : List AVal) (o : Nat), (∀ (i : Nat) (a : AVal), l[i]? = some a → ∃ v, w.cell? ⟨b, o + i, none⟩ = some v ∧ VR g a v) → ∃ vs, VRs g l vs ∧ ∀ j v, vs[j]? = some v → w.cell? ⟨b, o + j, none⟩ = some v
  | [], o, _ => ⟨[], by simp [VRs], by simp⟩
  | a :: l, o, hl => by
    obtain ⟨v, e, r⟩ := hl 0 a rfl
    obtain ⟨vs, r', hv⟩ := cells_list l (o + 1) fun i x hx => by
      have := hl (i + 1) x (by simpa using hx)
      rwa [show o + (i + 1) = o + 1 + i by omega] at this
    refine ⟨v :: vs, by simp only [VRs]; exact ⟨v, vs, rfl, r, r'⟩, fun j u hj => ?_⟩
    cases j with
    | zero => simp at hj; subst hj; exact e
    | succ j => simp at hj; rw [show o + (j + 1) = o + 1 + j by omega]; exact hv j u hj
/-- What lies behind a source. -/
theorem run_src {P : Program} {g : Gh} {w : World} {μ : AMem} (hs : Sim P g w μ) {x : AVal} {m : Nat} {ds : List AVal} {cx : Value} {sz : Nat} (h : asrc μ sz x = some (m, ds)) (k : VR g x cx) (hl : ds.length = m * sz) :
    (Builtin.lenOf cx).run P w = .ok m w ∧ ∃ vs, (Builtin.firstCells sz m cx).run P w = .ok ⟨vs⟩ w ∧ VRs g ds vs := by
  unfold asrc at h
  split at h
  rotate_left 2
  · rename_i id off m' tk
    split at h <;> try (cases h; done)
    rename_i cs hcs
    split at h <;> cases h
    rename_i hle
    simp only [VR] at k
    obtain ⟨b, c, hb, rfl, hn, _⟩ := k
    refine ⟨rfl, ?_⟩
    have hc := rowCs_spec hs hcs hb
    obtain ⟨vs, r, hv⟩ := cells_list (g := g) (w := w) (b := b) ((cs.drop off).take (m * sz)) off fun i a hi => by
      rw [List.getElem?_take] at hi
      split at hi
      · rw [List.getElem?_drop] at hi; exact hc _ a hi
      · cases hi
    refine ⟨vs, ?_, r⟩
    have := run_loadCells_list (P := P) w ⟨b, off, none⟩ vs fun j u hj => by rw [Addr.add_mid]; exact hv j u hj
    rw [r.length, hl] at this
    exact this
  · cases h
  all_goals cases h
  · simp only [VR] at k
    obtain ⟨A, c, rfl, hn, _, k⟩ := k
    refine ⟨rfl, ?_⟩
    rcases k with ⟨rfl, rfl⟩ | ⟨b, o, rfl, k⟩
    · refine ⟨[], ?_, by simp [VRs]⟩
      cases A with
      | none => rfl
      | some a => simp [Builtin.firstCells, loadCells, loadCellsFrom]
    · have hex : ∀ (l : List AVal) (o : Nat), VC g b o l → ∃ vs, VRs g l vs ∧ ∀ j v, vs[j]? = some v → w.cell? ⟨b, o + j, none⟩ = some v := by
        intro l
        induction l with
        | nil => intro o _; exact ⟨[], by simp [VRs], by simp⟩
        | cons a l ih =>
          intro o hl
          simp only [VC] at hl
          obtain ⟨⟨v, e, r⟩, hl⟩ := hl
          obtain ⟨vs, r', hv⟩ := ih (o + 1) hl
          refine ⟨v :: vs, by simp only [VRs]; exact ⟨v, vs, rfl, r, r'⟩, fun j u hj => ?_⟩
          cases j with
          | zero =>
            simp at hj; subst hj
            obtain ⟨cs', e', fr, hh, hc⟩ := hs.imm _ _ _ e
            simp [World.cell?, hh, hc]
          | succ j => simp at hj; rw [show o + (j + 1) = o + 1 + j by omega]; exact hv j u hj
      obtain ⟨vs, r, hv⟩ := hex ds o k
      refine ⟨vs, ?_, r⟩
      have := run_loadCells_list (P := P) w ⟨b, o, none⟩ vs fun j u hj => by rw [Addr.add_mid]; exact hv j u hj
      rw [r.length, hl] at this
      exact this
  · simp only [VR] at k
    subst k
    rename_i s
    refine ⟨rfl, s.data.toList.map fun b => .int .u8 b.toNat, ?_, ?_⟩
    · have e : s.extract 0 s.size = s := by
        apply ByteArray.ext
        simp
      show Result.ok ((s.extract 0 s.size).data.map fun b => Value.int .u8 b.toNat) w = _
      rw [e]
      congr 1
      apply Array.ext'
      simp
    · exact VRs.map_eval _ fun b _ => by simp [VR]
theorem zeroCells_length (z : Array Value) (n : Nat) : (Builtin.zeroCells z n).toList.length = n * z.size := by simp [Builtin.zeroCells]
/-- The operation's text, where there is room, and where there is none. -/
theorem append_room {P : Program} {w : World} {t xT e ty : TypeId} {sz : Nat} {i : TypeInfo} {d : TypeDesc} (hu : P.underlying t = some (.slice e)) (hux : P.underlying xT = some d) (hd : (∃ e', d = .slice e') ∨ d = .string)
    (hinf : P.info? e = some i) (hcell : P.cellsOf e = sz) {A : Option Addr} {n c m : Nat} {cx : Value} {news : List Value} (hlen : (Builtin.lenOf cx).run P w = .ok m w) (hfirst : (Builtin.firstCells sz m cx).run P w = .ok ⟨news⟩ w) (hfit : n + m ≤ c) :
    (Builtin.append_ #[t, xT] ty #[.slice A n c, cx]).run P w = (match A with
      | some a => (storeCells (a.add (n * sz)) news).run P w
      | none => .ok () w).andThen fun _ w' => .ok (.slice A (n + m) c) w' := by
  rcases hd with ⟨e', rfl⟩ | rfl <;> cases A <;> simp [Builtin.append_, run_underlying hu, run_underlying hux, run_sizeOf' hinf, hlen, hfit, hcell, hfirst]
theorem append_none {P : Program} {w : World} {t xT e ty : TypeId} {sz : Nat} {i : TypeInfo} {z : Value} {d : TypeDesc} (hu : P.underlying t = some (.slice e)) (hux : P.underlying xT = some d) (hd : (∃ e', d = .slice e') ∨ d = .string)
    (hinf : P.info? e = some i) (hz : i.zero = some z) (hcell : P.cellsOf e = sz) (hb0 : 0 < i.bytes) {A : Option Addr} {n c m : Nat} {cx : Value} {olds news : List Value} (hlen : (Builtin.lenOf cx).run P w = .ok m w)
    (hfirst : (Builtin.firstCells sz m cx).run P w.drew = .ok ⟨news⟩ w.drew) (hof : (Builtin.firstCells sz n (.slice A n c)).run P w.drew = .ok ⟨olds⟩ w.drew) (hfit : ¬ n + m ≤ c) (hb : (n + m) * i.bytes ≤ 140737488355328) (hmax : n + m ≤ 140737488355328) :
    (Builtin.append_ #[t, xT] ty #[.slice A n c, cx]).run P w =
      .ok (.slice (some ⟨w.heap.size, 0, none⟩) (n + m) (grownCap w (n + m) c e)) (w.drew.alloc (.cells ⟨(olds ++ news) ++ (Builtin.zeroCells z.cells (grownCap w (n + m) c e - (n + m))).toList⟩ e)) := by
  have hgs := growslice_fits (need := n + m) (old := c) (bytes := i.bytes) (by omega) hb
  have hgs' : ¬ 281474976710656 < Builtin.nextslicecap (n + m) c * i.bytes := by omega
  have hask : ∀ q : Nat, (askRoom q).run P w.drew = .ok () w.drew := fun q => by unfold askRoom; split <;> rfl
  have hmx : ¬ (9223372036854775807 < ((n : Int) + m)) := by omega
  have hdr : ({ w with drawn := w.drawn + 1 } : World) = w.drew := rfl
  rcases hd with ⟨e', rfl⟩ | rfl <;>
    simp [Builtin.append_, run_underlying hu, run_underlying hux, run_sizeOf' hinf, hlen, hfit, hcell, typeInfo, hinf, hgs', Nat.ne_of_gt hb0, run_choose, Question.forced, hdr, hask, hof, hfirst, zeroValue, hz, newRow, newObj, Sem.run]
  · exact ⟨rfl, congrArg (fun l => w.drew.alloc (.cells l e)) (by apply Array.ext'; simp [grownCap])⟩
  · exact ⟨rfl, congrArg (fun l => w.drew.alloc (.cells l e)) (by apply Array.ext'; simp [grownCap])⟩
theorem run_append {P : Program} {g : Gh} {w : World} {μ : AMem} (hs : Sim P g w μ) {t xT e ty : TypeId} {sz bytes : Nat} (hi : appInfo P t xT = some (e, sz, bytes)) {n : Nat} {cs : List AVal} {tk : Tk} {cv cx : Value} {x : AVal} {m : Nat} {ds : List AVal}
    (k : VR g (.sl n cs tk) cv) (hx : asrc μ sz x = some (m, ds)) (kx : VR g x cx) (hlc : cs.length = n * sz) (hld : ds.length = m * sz) (hb : (n + m) * bytes ≤ 140737488355328) (hcan : CanApp e μ.lv tk) (hone : ds.all AVal.one = true) :
    let μ' : AMem := { μ with lv := μ.nx :: appLv μ.lv tk, nx := μ.nx + 1 }
    ∃ c w' g', (Builtin.append_ #[t, xT] ty #[cv, cx]).run P w = .ok c w' ∧ VR g' (.sl (n + m) (cs ++ ds) (.own μ.nx e)) c ∧ Sim P g' w' μ' ∧ St g w μ g' w' μ' := by
  intro μ'
  obtain ⟨i, z, d, hu, hux, hd, hinf, hz, hzs, hisz, hib, hsz0, hb0, hcell⟩ := appInfo_spec hi
  have hk := k
  obtain ⟨hlen, news, hfirst, rnews⟩ := run_src hs hx kx hld
  have hnl : news.length = m * sz := by rw [rnews.length, hld]
  have hnews1 : ∀ v ∈ news, v.oneCell' = true := all_one hone rnews
  simp only [VR] at k
  obtain ⟨A, c, rfl, hnc, htk, kk⟩ := k
  obtain ⟨_, olds, hof, rolds⟩ := run_src hs (x := .sl n cs tk) rfl hk hlc
  have hol : olds.length = n * sz := by rw [rolds.length, hlc]
  have hneed : n + m ≤ 140737488355328 := Nat.le_trans (Nat.le_mul_of_pos_right _ hb0) hb
  by_cases hfit : n + m ≤ c
  · have hrun := append_room (ty := ty) (A := A) hu hux hd hinf hcell hlen hfirst hfit
    by_cases hm : m = 0
    · subst hm
      obtain rfl : ds = [] := List.eq_nil_of_length_eq_zero (by simpa using hld)
      obtain rfl : news = [] := List.eq_nil_of_length_eq_zero (by simpa using hnl)
      have hrun' : (Builtin.append_ #[t, xT] ty #[.slice A n c, cx]).run P w = .ok (.slice A n c) w := by
        rw [hrun]; cases A <;> rfl
      have fin : ∀ x : Option (Nat × Nat × Nat × TypeId), (∀ y, x = some y → ∃ r, r ∈ μ.lv ∧ r ∉ appLv μ.lv tk ∧ g.T r = some y) → (∀ r, r ∈ appLv μ.lv tk → r ∈ μ.lv) → (appLv μ.lv tk).Nodup →
          (c = n ∨ ∃ b, A = some ⟨b, 0, none⟩ ∧ x = some (b, c, cs.length, e)) →
          ∃ c' w' g', (Builtin.append_ #[t, xT] ty #[.slice A n c, cx]).run P w = .ok c' w' ∧ VR g' (.sl (n + 0) (cs ++ []) (.own μ.nx e)) c' ∧ Sim P g' w' μ' ∧ St g w μ g' w' μ' := by
        intro x hx hsub hnd hor
        have hst := Sim.stamp hs (appLv μ.lv tk) hsub hnd x hx
        refine ⟨.slice A n c, w, _, hrun', ?_, hst.1, hst.2⟩
        simp only [VR, Nat.add_zero, List.append_nil]
        refine ⟨A, c, rfl, hnc, ?_, kk.imp id fun ⟨b, o, e1, k1⟩ => ⟨b, o, e1, VC.mono hst.2.le _ _ _ k1⟩⟩
        rcases hor with h1 | ⟨b, h1, h2⟩
        · exact .inl h1
        · exact .inr ⟨b, h1, by simp [Gh.stamp, h2]⟩
      cases tk with
      | no => cases hcan
      | row => cases hcan
      | full => exact fin none (by intro y hy; cases hy) (fun _ h => h) hs.nd (.inl htk)
      | own r e' =>
        obtain ⟨rfl, hr⟩ := hcan
        have hnr : r ∉ μ.lv.erase r := List.Nodup.not_mem_erase hs.nd
        rcases htk with h1 | ⟨b, h1, h2⟩
        · exact fin none (by intro y hy; cases hy) (fun _ h => List.mem_of_mem_erase h) (hs.nd.erase r) (.inl h1)
        · exact fin (some _) (fun y hy => by cases hy; exact ⟨r, hr, hnr, h2⟩) (fun _ h => List.mem_of_mem_erase h) (hs.nd.erase r) (.inr ⟨b, h1, rfl⟩)
    · cases tk with
      | no => cases hcan
      | row => cases hcan
      | full => simp only [TkR] at htk; omega
      | own r e' =>
        obtain ⟨rfl, hr⟩ := hcan
        obtain ⟨b, rfl, hT⟩ := htk.resolve_left (by omega)
        obtain ⟨blk, hblk, hbsz, hbn⟩ := hs.tk r b _ _ _ hr hT
        have hroom : cs.length + news.length ≤ blk.size := by
          rw [hlc, hnl, hbsz, hcell, ← Nat.add_mul]
          exact Nat.mul_le_mul_right _ hfit
        have hg := Sim.growRow hs hr hT blk hblk news hroom
        have hst := run_storeCells_at (P := P) b (n * sz) e' news 0 blk w hblk (by rw [Nat.add_zero, ← hlc]; exact hroom) hnews1
        rw [Nat.add_zero, ← hlc] at hst
        refine ⟨.slice (some ⟨b, 0, none⟩) (n + m) c, _, _, ?_, ?_, hg.1, hg.2⟩
        · have hadd : (⟨b, 0, none⟩ : Addr).add (n * sz) = ⟨b, cs.length, none⟩ := by rw [Addr.add_mid, hlc, Nat.zero_add]
          rw [hrun]
          simp only [hadd, hst, Result.andThen_ok]
        · simp only [VR]
          refine ⟨_, c, rfl, hfit, .inr ⟨b, rfl, ?_⟩, .inr ⟨b, 0, rfl, ?_⟩⟩
          · simp [Gh.grow, rnews.length]
          · rcases kk with ⟨_, rfl⟩ | ⟨b', o', e2, kk⟩
            · exact VC_grow (by simpa using rnews.mono hg.2.le)
            · cases e2
              exact VC.append (VC.mono hg.2.le _ _ _ kk) (by rw [Nat.zero_add]; exact VC_grow (rnews.mono hg.2.le))
  · have hs1 := (Sim.drew hs (w' := w.drew) rfl rfl rfl rfl).1
    obtain ⟨_, news, hfirst, rnews⟩ := run_src hs1 hx kx hld
    obtain ⟨_, olds, hof, rolds⟩ := run_src hs1 (x := .sl n cs tk) rfl hk hlc
    have hol : olds.length = n * sz := by rw [rolds.length, hlc]
    have hnl : news.length = m * sz := by rw [rnews.length, hld]
    have hrun := append_none (ty := ty) (A := A) hu hux hd hinf hz hcell (by omega) hlen hfirst hof hfit (by rw [hib]; exact hb) hneed
    have hcap := grownCap_ge w (n + m) c e
    have hzl : (Builtin.zeroCells z.cells (grownCap w (n + m) c e - (n + m))).toList.length = (grownCap w (n + m) c e - (n + m)) * sz := by rw [zeroCells_length, hzs]
    have hszz : ((olds ++ news) ++ (Builtin.zeroCells z.cells (grownCap w (n + m) c e - (n + m))).toList).length = grownCap w (n + m) c e * P.cellsOf e := by
      rw [List.length_append, List.length_append, hol, hnl, hzl, hcell, ← Nat.add_mul, ← Nat.add_mul]; congr 1; omega
    have fin : (∀ r, r ∈ appLv μ.lv tk → r ∈ μ.lv) → (appLv μ.lv tk).Nodup →
        ∃ c' w' g', (Builtin.append_ #[t, xT] ty #[.slice A n c, cx]).run P w = .ok c' w' ∧ VR g' (.sl (n + m) (cs ++ ds) (.own μ.nx e)) c' ∧ Sim P g' w' μ' ∧ St g w μ g' w' μ' := by
      intro hsub hnd
      have hg := Sim.newRow hs (w1 := w.drew) rfl rfl rfl rfl (olds ++ news) (Builtin.zeroCells z.cells (grownCap w (n + m) c e - (n + m))).toList e (grownCap w (n + m) c e) hszz (appLv μ.lv tk) hsub hnd
      refine ⟨_, _, _, hrun, ?_, hg.1, hg.2⟩
      simp only [VR]
      refine ⟨_, _, rfl, hcap, .inr ⟨w.heap.size, rfl, ?_⟩, .inr ⟨w.heap.size, 0, rfl, ?_⟩⟩
      · simp [Gh.grow, rolds.length, rnews.length]
      · exact VC_grow ((rolds.append rnews).mono hg.2.le)
    cases tk with
    | no => cases hcan
    | row => cases hcan
    | full => exact fin (fun _ h => h) hs.nd
    | own r e' =>
      obtain ⟨rfl, hr⟩ := hcan
      exact fin (fun _ h => List.mem_of_mem_erase h) (hs.nd.erase r)
end Go.Proofs.YtjleeecaebgblaaGreatDoor.AL
namespace Go.Proofs.YtjleeecaebgblaaGreatDoor.AL
open Go.RowKit
/-- A ROW OF THE ABSTRACT MEMORY GROWS IN PLACE. -/
theorem Sim.growM {P : Program} {g : Gh} {w w' : World} {μ : AMem} (h : Sim P g w μ) {i b c : Nat} {e : TypeId} {cs cs' : List AVal} (hi : g.φ i = some b) (hk : μ.blks[i]? = some (.row e cs))
    (hos : w'.os = w.os) (htp : w'.tape = w.tape) (hou : w'.output = w.output) (hsz : w'.heap.size = w.heap.size) (hoth : ∀ x, x ≠ b → w'.heap[x]? = w.heap[x]?)
    (hb : BR P (g.name μ.blks.length b (some c)) w' μ.blks.length b (.row e cs')) :
    let g' := g.name μ.blks.length b (some c)
    let μ' : AMem := { μ with blks := μ.blks.set i .dead ++ [.row e cs'] }
    Sim P g' w' μ' ∧ St g w μ g' w' μ' := by
  intro g' μ'
  have hnew : g.φ μ.blks.length = none := h.φ_new (Nat.le_refl _)
  have hle : g.le g' := Gh.le_name hnew (h.Cp_none hnew)
  have hilt := (h.lt i b hi).1
  have hblt := (h.lt i b hi).2
  have hφ : ∀ j x, g'.φ j = some x → (j = μ.blks.length ∧ x = b) ∨ (j < μ.blks.length ∧ g.φ j = some x) := by
    intro j x e
    simp only [g', Gh.name] at e
    split at e
    · cases e; exact .inl ⟨by assumption, rfl⟩
    · exact .inr ⟨(h.lt j x e).1, e⟩
  have old : ∀ j x, j < μ.blks.length → (μ.blks.set i .dead ++ [.row e cs'])[j]? = some x → (j = i ∧ x = .dead) ∨ (j ≠ i ∧ μ.blks[j]? = some x) := by
    intro j x hj hx
    rw [List.getElem?_append_left (by simpa using hj)] at hx
    by_cases hji : j = i
    · subst hji
      left
      rw [List.getElem?_set_self hilt] at hx
      exact ⟨rfl, by cases hx; rfl⟩
    · rw [List.getElem?_set_ne (Ne.symm hji)] at hx
      exact .inr ⟨hji, hx⟩
  have last : (μ.blks.set i .dead ++ [ABlk.row e cs'])[μ.blks.length]? = some (.row e cs') := by
    rw [List.getElem?_append_right (by simp)]; simp
  constructor
  · constructor
    · intro j x e'
      rcases hφ j x e' with ⟨rfl, rfl⟩ | ⟨hj, e'⟩
      · simp [μ', hsz, hblt]
      · have := h.lt j x e'; simp [μ', hsz]; omega
    · intro j1 j2 x k1 k2 e1 e2 h1 h2 d1 d2
      have alive : ∀ j k, g'.φ j = some b → μ'.blks[j]? = some k → k.isDead = false → j = μ.blks.length := by
        intro j k ej hj dj
        rcases hφ j b ej with ⟨rfl, _⟩ | ⟨hlt, ej⟩
        · rfl
        · rcases old j k hlt hj with ⟨_, rfl⟩ | ⟨hne, hk'⟩
          · cases dj
          · exact absurd (h.inj j i b k _ ej hi hk' hk dj rfl) hne
      by_cases hx : x = b
      · subst hx
        rw [alive j1 k1 e1 h1 d1, alive j2 k2 e2 h2 d2]
      · rcases hφ j1 x e1 with ⟨_, h3⟩ | ⟨l1, e1⟩
        · exact absurd h3 hx
        rcases hφ j2 x e2 with ⟨_, h3⟩ | ⟨l2, e2⟩
        · exact absurd h3 hx
        rcases old j1 k1 l1 h1 with ⟨_, rfl⟩ | ⟨_, h1⟩
        · cases d1
        rcases old j2 k2 l2 h2 with ⟨_, rfl⟩ | ⟨_, h2⟩
        · cases d2
        exact h.inj j1 j2 x k1 k2 e1 e2 h1 h2 d1 d2
    · intro j x e'
      simp only [g', Gh.name] at e' ⊢
      split at e'
      · rename_i hj; rw [if_pos hj]; exact ⟨_, rfl⟩
      · rename_i hj; rw [if_neg hj]; exact h.cpl j x e'
    · intro j x k e' hk'
      rcases hφ j x e' with ⟨rfl, rfl⟩ | ⟨hj, e2⟩
      · rw [last] at hk'; cases hk'; exact hb
      · rcases old j k hj hk' with ⟨_, rfl⟩ | ⟨hne, hk2⟩
        · simp [BR]
        · by_cases hx : x = b
          · cases hd : k.isDead with
            | true => cases k <;> first | (simp only [BR]; done) | cases hd
            | false => exact absurd (h.inj j i b k _ (hx ▸ e2) hi hk2 hk hd rfl) hne
          · exact BR.mono hle (hoth x hx) (h.blk j x k e2 hk2)
    · intro x o v e'
      obtain ⟨cs0, t, fr, hh, hc⟩ := h.imm x o v e'
      refine ⟨cs0, t, fr, (hoth x fun hx => ?_).trans hh, hc⟩
      subst hx
      have e2 : g.H x o = some v := e'
      rw [h.sep i x _ o hi hk rfl] at e2; cases e2
    · intro j x k o e' hk' hd
      rcases hφ j x e' with ⟨rfl, rfl⟩ | ⟨hj, e'⟩
      · exact h.sep i x _ o hi hk rfl
      · rcases old j k hj hk' with ⟨_, rfl⟩ | ⟨_, hk'⟩
        · cases hd
        · exact h.sep j x k o e' hk' hd
    · intro s x c' n e' ht; have := h.tlt s x c' n e' ht; omega
    · intro s x c' n e' hs ht
      obtain ⟨cs0, hh, r⟩ := h.tk s x c' n e' hs ht
      refine ⟨cs0, (hoth x fun hx => ?_).trans hh, r⟩
      subst hx
      have := h.tsep s x c' n e' i _ hs ht hi hk
      cases this
    · intro s x c' n e' j k hs ht e1 hk'
      rcases hφ j x e1 with ⟨rfl, rfl⟩ | ⟨hj, e1⟩
      · have := h.tsep s x c' n e' i _ hs ht hi hk
        cases this
      · rcases old j k hj hk' with ⟨_, rfl⟩ | ⟨_, hk'⟩
        · rfl
        · exact h.tsep s x c' n e' j k hs ht e1 hk'
    · exact h.tinj
    · exact h.nd
    · exact h.ll
    · exact h.tf
    · intro b cs e; exact VC.mono hle _ _ _ (h.gl b cs e)
  · refine ⟨hle, fun j hj => ?_, by simp [μ'], fun _ _ _ _ => rfl, ⟨hos, htp, hou, by omega, fun x hx ho => hoth x fun hxb => ho ?_⟩, fun x hx ho => ?_⟩
    · simp only [g', Gh.name]; rw [if_neg (by omega)]
    · subst hxb; exact .inl ⟨i, hi⟩
    · rcases ho with ⟨j, e'⟩ | ho
      · rcases hφ j x e' with ⟨_, rfl⟩ | ⟨_, e'⟩
        · exact .inl ⟨i, hi⟩
        · exact .inl ⟨j, e'⟩
      · exact .inr ho
/-- A ROW OF THE ABSTRACT MEMORY IN A NEW BLOCK. -/
theorem Sim.allocRow {P : Program} {g : Gh} {w w1 : World} {μ : AMem} (h : Sim P g w μ) (hh : w1.heap = w.heap) (hos : w1.os = w.os) (htp : w1.tape = w.tape) (hou : w1.output = w.output)
    {cs : List AVal} (vs sp : List Value) (e : TypeId) (cap : Nat) (hv : VRs g cs vs) (hsz : (vs ++ sp).length = cap * P.cellsOf e) :
    let g' := g.name μ.blks.length w.heap.size (some cap)
    let μ' : AMem := { μ with blks := μ.blks ++ [.row e cs] }
    Sim P g' (w1.alloc (.cells ⟨vs ++ sp⟩ e)) μ' ∧ St g w μ g' (w1.alloc (.cells ⟨vs ++ sp⟩ e)) μ' := by
  intro g' μ'
  have h1 := Sim.drew h (w' := w1) hh hos htp hou
  have hnew : g.φ μ.blks.length = none := h.φ_new (Nat.le_refl _)
  have hle : g.le g' := Gh.le_name hnew (h.Cp_none hnew)
  have hsize : w1.heap.size = w.heap.size := by rw [hh]
  have h2 := Sim.alloc h1.1 (.cells ⟨vs ++ sp⟩ e) (.row e cs) (some cap) (by
    rw [hsize]
    simp only [BR]
    refine ⟨vs, sp, cap, ?_, VRs.mono hle _ _ hv, by simp [Gh.name], hsz⟩
    rw [← hsize]; exact heap_alloc_new' w1 _) rfl
  rw [hsize] at h2
  exact ⟨h2.1, h1.2.trans h2.2⟩
/-- A BLOCK OF THE ABSTRACT MEMORY IS FORGOTTEN. -/
theorem Sim.kill {P : Program} {g : Gh} {w : World} {μ : AMem} (h : Sim P g w μ) (i : Nat) : Sim P g w { μ with blks := μ.blks.set i .dead } ∧ St g w μ g w { μ with blks := μ.blks.set i .dead } := by
  have old : ∀ (j : Nat) (x : ABlk), (μ.blks.set i .dead)[j]? = some x → x = .dead ∨ μ.blks[j]? = some x := by
    intro j x hx
    by_cases hji : i = j
    · subst hji
      left
      rw [List.getElem?_set] at hx
      simp only [if_true] at hx
      split at hx <;> cases hx
      rfl
    · rw [List.getElem?_set_ne hji] at hx; exact .inr hx
  constructor
  · constructor
    · intro j x e; have := h.lt j x e; simp; omega
    · intro j1 j2 x k1 k2 e1 e2 h1 h2 d1 d2
      rcases old j1 k1 h1 with rfl | h1
      · cases d1
      rcases old j2 k2 h2 with rfl | h2
      · cases d2
      exact h.inj j1 j2 x k1 k2 e1 e2 h1 h2 d1 d2
    · exact h.cpl
    · intro j x k e hk
      rcases old j k hk with rfl | hk
      · simp [BR]
      · exact h.blk j x k e hk
    · exact h.imm
    · intro j x k o e hk hd
      rcases old j k hk with rfl | hk
      · cases hd
      · exact h.sep j x k o e hk hd
    · exact h.tlt
    · exact h.tk
    · intro s x c n e j k hs ht hj hk
      rcases old j k hk with rfl | hk
      · rfl
      · exact h.tsep s x c n e j k hs ht hj hk
    · exact h.tinj
    · exact h.nd
    · exact h.ll
    · exact h.tf
    · exact h.gl
  · exact ⟨.refl g, fun _ _ => rfl, by simp, fun _ _ _ _ => rfl, .refl _ _ _, fun b _ ho => ho⟩
def fullS : AVal → Bool
  | .sl _ _ .full | .ms _ _ _ .full => true
  | _ => false
theorem fullS_spec {P : Program} {g : Gh} {w : World} {μ : AMem} (hs : Sim P g w μ) {sz : Nat} {s : AVal} {n : Nat} {cs : List AVal} {cv : Value} (h : fullS s = true) (ha : asrc μ sz s = some (n, cs)) (k : VR g s cv) : ∃ A, cv = .slice A n n := by
  unfold fullS at h
  split at h
  · simp only [asrc] at ha; cases ha
    simp only [VR] at k
    obtain ⟨A, c, rfl, _, hc, _⟩ := k
    simp only [TkR] at hc
    exact ⟨A, by rw [hc]⟩
  · simp only [asrc] at ha
    split at ha <;> try (cases ha; done)
    split at ha <;> cases ha
    simp only [VR] at k
    obtain ⟨b, c, _, rfl, _, hc⟩ := k
    simp only [TkM] at hc
    exact ⟨_, by rw [hc]⟩
  · cases h
/-- 'append' of what fits into no row: a new row of the abstract memory. -/
theorem run_appendM_new {P : Program} {g : Gh} {w : World} {μ : AMem} (hs : Sim P g w μ) {t xT e ty : TypeId} {sz bytes : Nat} (hi : appInfo P t xT = some (e, sz, bytes)) {s x : AVal} {n m c : Nat} {cs ds : List AVal} {A : Option Addr} {cx : Value}
    (hsrc : asrc μ sz s = some (n, cs)) (ks : VR g s (.slice A n c)) (hx : asrc μ sz x = some (m, ds)) (kx : VR g x cx) (hlc : cs.length = n * sz) (hld : ds.length = m * sz) (hb : (n + m) * bytes ≤ 140737488355328) (hfit : ¬ n + m ≤ c) (kill : Option Nat) :
    let μ1 : AMem := match kill with | some i => { μ with blks := μ.blks.set i .dead } | none => μ
    let μ' : AMem := { μ1 with blks := μ1.blks ++ [.row e (cs ++ ds)] }
    ∃ c' w' g', (Builtin.append_ #[t, xT] ty #[.slice A n c, cx]).run P w = .ok c' w' ∧ VR g' (.ms μ.blks.length 0 (n + m) .row) c' ∧ Sim P g' w' μ' ∧ St g w μ g' w' μ' := by
  intro μ1 μ'
  obtain ⟨i, z, d, hu, hux, hd, hinf, hz, hzs, hisz, hib, hsz0, hb0, hcell⟩ := appInfo_spec hi
  obtain ⟨hlen, _, _, _⟩ := run_src hs hx kx hld
  have hneed : n + m ≤ 140737488355328 := Nat.le_trans (Nat.le_mul_of_pos_right _ hb0) hb
  have hs1 := (Sim.drew hs (w' := w.drew) rfl rfl rfl rfl).1
  obtain ⟨_, news, hfirst, rnews⟩ := run_src hs1 hx kx hld
  obtain ⟨_, olds, hof, rolds⟩ := run_src hs1 hsrc ks hlc
  have hol : olds.length = n * sz := by rw [rolds.length, hlc]
  have hnl : news.length = m * sz := by rw [rnews.length, hld]
  have hrun := append_none (ty := ty) (A := A) hu hux hd hinf hz hcell (by omega) hlen hfirst hof hfit (by rw [hib]; exact hb) hneed
  have hcap := grownCap_ge w (n + m) c e
  have hzl : (Builtin.zeroCells z.cells (grownCap w (n + m) c e - (n + m))).toList.length = (grownCap w (n + m) c e - (n + m)) * sz := by rw [zeroCells_length, hzs]
  have hszz : ((olds ++ news) ++ (Builtin.zeroCells z.cells (grownCap w (n + m) c e - (n + m))).toList).length = grownCap w (n + m) c e * P.cellsOf e := by
    rw [List.length_append, List.length_append, hol, hnl, hzl, hcell, ← Nat.add_mul, ← Nat.add_mul]; congr 1; omega
  have hk : Sim P g w μ1 ∧ St g w μ g w μ1 ∧ μ1.blks.length = μ.blks.length := by
    cases kill with
    | none => exact ⟨hs, .refl _ _ _, rfl⟩
    | some i => have := Sim.kill hs i; exact ⟨this.1, this.2, by simp [μ1]⟩
  have hal := Sim.allocRow hk.1 (w1 := w.drew) rfl rfl rfl rfl (olds ++ news) (Builtin.zeroCells z.cells (grownCap w (n + m) c e - (n + m))).toList e (grownCap w (n + m) c e) (rolds.append rnews) hszz
  refine ⟨_, _, _, hrun, ?_, hal.1, hk.2.1.trans hal.2⟩
  simp only [VR]
  refine ⟨w.heap.size, grownCap w (n + m) c e, by simp [Gh.name, hk.2.2], rfl, hcap, rfl, by simp [Gh.name, hk.2.2]⟩
/-- 'append' to a row of the abstract memory. -/
theorem run_appendM_row {P : Program} {g : Gh} {w : World} {μ : AMem} (hs : Sim P g w μ) {t xT e ty : TypeId} {sz bytes : Nat} (hi : appInfo P t xT = some (e, sz, bytes)) {id n m : Nat} {cs ds : List AVal} {x : AVal} {cv cx : Value}
    (hrow : μ.blks[id]? = some (.row e cs)) (ks : VR g (.ms id 0 n .row) cv) (hx : asrc μ sz x = some (m, ds)) (kx : VR g x cx) (hlc : cs.length = n * sz) (hld : ds.length = m * sz) (hb : (n + m) * bytes ≤ 140737488355328) (hone : ds.all AVal.one = true) :
    let μ' : AMem := { μ with blks := μ.blks.set id .dead ++ [.row e (cs ++ ds)] }
    ∃ c' w' g', (Builtin.append_ #[t, xT] ty #[cv, cx]).run P w = .ok c' w' ∧ VR g' (.ms μ.blks.length 0 (n + m) .row) c' ∧ Sim P g' w' μ' ∧ St g w μ g' w' μ' := by
  intro μ'
  obtain ⟨i, z, d, hu, hux, hd, hinf, hz, hzs, hisz, hib, hsz0, hb0, hcell⟩ := appInfo_spec hi
  have ks' := ks
  simp only [VR] at ks
  obtain ⟨b, c, hφ, rfl, hnc, _, hcp⟩ := ks
  have hsrc : asrc μ sz (.ms id 0 n .row) = some (n, cs) := by
    simp only [asrc, rowCs, hrow]
    rw [if_pos (by omega)]
    simp [← hlc]
  by_cases hfit : n + m ≤ c
  · obtain ⟨hlen, news, hfirst, rnews⟩ := run_src hs hx kx hld
    have hnl : news.length = m * sz := by rw [rnews.length, hld]
    have hnews1 : ∀ v ∈ news, v.oneCell' = true := all_one hone rnews
    have hrun := append_room (ty := ty) (A := some ⟨b, 0, none⟩) hu hux hd hinf hcell hlen hfirst hfit
    have hbr := hs.blk id b _ hφ hrow
    simp only [BR] at hbr
    obtain ⟨vs, sp, c2, hh, hv, hcp2, hl2⟩ := hbr
    rw [hcp] at hcp2; cases hcp2
    have hvl := hv.length
    have hnew : g.φ μ.blks.length = none := hs.φ_new (Nat.le_refl _)
    have hle : g.le (g.name μ.blks.length b (some c)) := Gh.le_name hnew (hs.Cp_none hnew)
    have fin : ∀ w' sp', w'.os = w.os → w'.tape = w.tape → w'.output = w.output → w'.heap.size = w.heap.size → (∀ x, x ≠ b → w'.heap[x]? = w.heap[x]?) → w'.heap[b]? = some (.cells ⟨(vs ++ news) ++ sp'⟩ e (0, 0)) → ((vs ++ news) ++ sp').length = c * P.cellsOf e →
        (Builtin.append_ #[t, xT] ty #[.slice (some ⟨b, 0, none⟩) n c, cx]).run P w = .ok (.slice (some ⟨b, 0, none⟩) (n + m) c) w' →
        ∃ c' w' g', (Builtin.append_ #[t, xT] ty #[.slice (some ⟨b, 0, none⟩) n c, cx]).run P w = .ok c' w' ∧ VR g' (.ms μ.blks.length 0 (n + m) .row) c' ∧ Sim P g' w' μ' ∧ St g w μ g' w' μ' := by
      intro w' sp' h1 h2 h3 h4 h5 h6 h7 h8
      have hg := Sim.growM (c := c) hs hφ hrow h1 h2 h3 h4 h5 (by simp only [BR]; exact ⟨vs ++ news, sp', c, h6, (VRs.mono hle _ _ hv).append (VRs.mono hle _ _ rnews), by simp [Gh.name], h7⟩)
      refine ⟨_, w', _, h8, ?_, hg.1, hg.2⟩
      simp only [VR]
      exact ⟨b, c, by simp [Gh.name], rfl, hfit, rfl, by simp [Gh.name]⟩
    by_cases hm : m = 0
    · subst hm
      obtain rfl : news = [] := List.eq_nil_of_length_eq_zero (by simpa using hnl)
      refine fin w sp rfl rfl rfl rfl (fun _ _ => rfl) (by simpa using hh) (by simpa using hl2) ?_
      rw [hrun]; rfl
    · have hroom : vs.length + news.length ≤ (vs ++ sp).length := by
        rw [hl2, hcell, hvl, hlc, hnl, ← Nat.add_mul]
        exact Nat.mul_le_mul_right _ hfit
      have hst := run_storeCells_at (P := P) b (n * sz) e news 0 ⟨vs ++ sp⟩ w hh (by rw [Nat.add_zero, ← hlc, ← hvl]; exact hroom) hnews1
      rw [Nat.add_zero, ← hlc, ← hvl] at hst
      have htk : (vs ++ sp).take vs.length = vs := by simp
      have hdr : (vs ++ sp).drop (vs.length + news.length) = sp.drop news.length := by
        rw [List.drop_append]; simp
      refine fin (w.setRow b ((vs ++ sp).take vs.length ++ news ++ (vs ++ sp).drop (vs.length + news.length)).toArray) (sp.drop news.length) rfl rfl rfl (by simp) (fun x hx => setRow_other w b x _ hx) ?_ ?_ ?_
      · rw [setRow_heap w b ⟨vs ++ sp⟩ _ e (0, 0) hh, htk, hdr]
      · simp only [List.length_append, List.length_drop] at hroom hl2 ⊢; omega
      · have hadd : (⟨b, 0, none⟩ : Addr).add (n * sz) = ⟨b, vs.length, none⟩ := by rw [Addr.add_mid, hvl, hlc, Nat.zero_add]
        rw [hrun]
        simp only [hadd, hst, Result.andThen_ok]
  · have := run_appendM_new (ty := ty) hs hi hsrc ks' hx kx hlc hld hb hfit (some id)
    simpa [μ'] using this
end Go.Proofs.YtjleeecaebgblaaGreatDoor.AL
namespace Go.Proofs.YtjleeecaebgblaaGreatDoor.AL
open Go.RowKit
def mfind (k : Value) : List (Value × AVal) → Option AVal
  | [] => none
  | e :: es => if keyEq k e.1 then some e.2 else mfind k es
/-- The kind of a map type's keys, and its element type. -/
def mapInfo (P : Program) (t : TypeId) : Option (TypeId × KeyK × TypeId) :=
  match P.underlying t with
  | some (.map k e) => match P.underlying k with
    | some .string => some (k, .str, e)
    | some (.int i) => some (k, .int i, e)
    | some .bool => some (k, .bool, e)
    | _ => none
  | _ => none
def kindDesc : KeyK → TypeDesc
  | .str => .string
  | .int i => .int i
  | .bool => .bool
theorem mapInfo_spec {P : Program} {t k e : TypeId} {kk : KeyK} (h : mapInfo P t = some (k, kk, e)) : P.underlying t = some (.map k e) ∧ P.underlying k = some (kindDesc kk) := by
  unfold mapInfo at h
  split at h <;> try (cases h; done)
  rename_i k' e' hu
  split at h <;> cases h
  · exact ⟨hu, ‹_›⟩
  · exact ⟨hu, ‹_›⟩
  · exact ⟨hu, ‹_›⟩
theorem run_checkKey {P : Program} {k : TypeId} {kk : KeyK} (h : P.underlying k = some (kindDesc kk)) (em : Bool) (n : Nat) (v : Value) (w : World) : (Instr.checkKey em (n + 1) k v).run P w = .ok () w := by
  cases kk <;> simp only [kindDesc] at h <;> simp [Instr.checkKey, run_underlying h]
theorem sameNow_fit {kk : KeyK} {a b : Value} (ha : keyFit kk a = true) (hb : keyFit kk b = true) : Instr.sameNow (kindDesc kk) a b = some (keyEq a b) := by
  cases kk <;> cases a <;> simp only [keyFit] at ha <;> try (cases ha; done)
  · cases b <;> simp only [keyFit] at hb <;> try (cases hb; done)
    simp only [kindDesc, Instr.sameNow, keyEq]
    rw [beq_toListBytes, bytes_beq]
  · cases b <;> simp only [keyFit] at hb <;> try (cases hb; done)
    simp only [decide_eq_true_eq] at ha hb
    subst ha; subst hb
    simp only [kindDesc, Instr.sameNow, keyEq, if_true]
    rw [int_beq]
  · cases b <;> simp only [keyFit] at hb <;> try (cases hb; done)
    simp only [kindDesc, Instr.sameNow, keyEq]
/-- Where the model finds the key. -/
theorem findNow_spec {g : Gh} {kk : KeyK} {k : Value} (hk : keyFit kk k = true) : ∀ (es : List (Value × AVal)) (ms : List MapEntry) (i : Nat), MR g es ms → (∀ e ∈ es, keyFit kk e.1 = true) →
    (mfind k es = none ∧ Instr.findNow (kindDesc kk) k ms i = some none ∧ ∀ v, mput k v es = es ++ [(k, v)]) ∨
    (∃ j v m, mfind k es = some v ∧ Instr.findNow (kindDesc kk) k ms i = some (some (i + j, m.val)) ∧ ms[j]? = some m ∧ keyEq k m.key = true ∧ VR g v m.val ∧ (∀ v', mput k v' es = es.set j (k, v')))
  | [], ms, i, h, _ => by
    simp only [MR] at h; subst h
    exact .inl ⟨rfl, rfl, fun _ => rfl⟩
  | e :: es, ms, i, h, hf => by
    simp only [MR] at h
    obtain ⟨m, ms', rfl, hkey, hv, h⟩ := h
    have hs : Instr.sameNow (kindDesc kk) k m.key = some (keyEq k e.1) := by rw [hkey]; exact sameNow_fit hk (hf e (by simp))
    by_cases he : keyEq k e.1 = true
    · refine .inr ⟨0, e.2, m, by simp [mfind, he], ?_, rfl, by rw [hkey]; exact he, hv, fun v' => by simp [mput, he]⟩
      simp [Instr.findNow, hs, he]
    · have he' : keyEq k e.1 = false := by simpa using he
      rcases findNow_spec hk es ms' (i + 1) h (fun x hx => hf x (by simp [hx])) with ⟨h1, h2, h3⟩ | ⟨j, v, m', h1, h2, h3, h4, h5, h6⟩
      · exact .inl ⟨by simp [mfind, he', h1], by simp [Instr.findNow, hs, he', h2], fun v => by simp [mput, he', h3]⟩
      · exact .inr ⟨j + 1, v, m', by simp [mfind, he', h1], by simp [Instr.findNow, hs, he', h2, Nat.add_assoc, Nat.add_comm 1 j], by simpa using h3, h4, h5, fun v' => by simp [mput, he', h6]⟩
theorem run_findKey {P : Program} {kt : TypeId} {kk : KeyK} (h : P.underlying kt = some (kindDesc kk)) {k : Value} {ms : List MapEntry} {r : Option (Nat × Value)} (hr : Instr.findNow (kindDesc kk) k ms 0 = some r) (w : World) :
    (Instr.findKey kt k ms).run P w = .ok r w := by
  simp [Instr.findKey, run_underlying h, hr]
/-! ### looking up -/
def zeroA (P : Program) (t : TypeId) : Option AVal :=
  match P.info? t with
  | some i => i.zero.map ofConst
  | none => none
theorem run_zero {P : Program} {t : TypeId} {z : AVal} (h : zeroA P t = some z) (g : Gh) : ∃ c, (∀ w, (zeroValue t).run P w = .ok c w) ∧ VR g z c := by
  unfold zeroA at h
  split at h <;> try (cases h; done)
  rename_i i hi
  obtain ⟨c, hc, rfl⟩ := Option.map_eq_some_iff.1 h
  exact ⟨c, fun w => by simp [zeroValue, typeInfo, hi, hc], VR_ofConst g c⟩
/-- What a map holds at a key: some none: nothing. -/
def mget (μ : AMem) (kk : KeyK) (k : Value) : AVal → Option (Option AVal)
  | .mp id => match μ.blks[id]? with
    | some (.map kk' es) => if kk' = kk then some (mfind k es) else none
    | _ => none
  | .lit (.map none) => some none
  | _ => none
def aLookup (P : Program) (t : TypeId) (μ : AMem) (x k : AVal) (ok : Bool) : Option AVal :=
  match mapInfo P t, k with
  | some (_, kk, e), .lit k => if keyFit kk k then
      match mget μ kk k x, zeroA P e with
      | some (some v), _ => some (if ok then .tup [v, .lit (.bool true)] else v)
      | some none, some z => some (if ok then .tup [z, .lit (.bool false)] else z)
      | _, _ => none
    else none
  | _, _ => none
def FoundR (g : Gh) : Option (Nat × Value) → Option AVal → Prop
  | some (_, c), some v => VR g v c
  | none, none => True
  | _, _ => False
theorem mget_spec {P : Program} {g : Gh} {w : World} {μ : AMem} (hs : Sim P g w μ) {kt : TypeId} {kk : KeyK} (hku : P.underlying kt = some (kindDesc kk)) {k : Value} (hfit : keyFit kk k = true) {x : AVal} {cx : Value} {o : Option AVal} (h : mget μ kk k x = some o) (kx : VR g x cx) :
    ∃ (es : List MapEntry) (r : Option (Nat × Value)), (∀ w, (Instr.findKey kt k es).run P w = .ok r w) ∧ FoundR g r o ∧
      ((cx = .map none ∧ es = []) ∨ ∃ b clk, cx = .map (some b) ∧ w.heap[b]? = some (.map ⟨es⟩ clk)) := by
  unfold mget at h
  split at h
  · rename_i id
    simp only [VR] at kx
    obtain ⟨b, hb, rfl⟩ := kx
    split at h
    · rename_i kk' es hes
      split at h
      · rename_i hkk
        subst hkk
        cases h
        have := hs.blk id b _ hb hes
        simp only [BR] at this
        obtain ⟨ms, clk, hh, hm, hf, _⟩ := this
        refine ⟨ms, ?_⟩
        rcases findNow_spec hfit es ms 0 hm hf with ⟨h1, h2, _⟩ | ⟨j, v, m, h1, h2, _, _, h5, _⟩
        · exact ⟨none, fun w => run_findKey hku h2 w, by rw [h1]; trivial, .inr ⟨b, clk, rfl, hh⟩⟩
        · exact ⟨_, fun w => run_findKey hku h2 w, by rw [h1]; exact h5, .inr ⟨b, clk, rfl, hh⟩⟩
      · cases h
    · cases h
  · cases h
    simp only [VR] at kx
    subst kx
    exact ⟨[], none, fun w => run_findKey hku rfl w, trivial, .inl ⟨rfl, rfl⟩⟩
  · cases h
theorem run_aLookup {P : Program} {g : Gh} {w : World} {μ : AMem} (hs : Sim P g w μ) {t : TypeId} {x k v : AVal} {ok : Bool} {cx ck : Value} (h : aLookup P t μ x k ok = some v) (kx : VR g x cx) (kk : VR g k ck) :
    ∃ c, (Instr.lookup t cx ck ok).run P w = .ok c w ∧ VR g v c := by
  unfold aLookup at h
  split at h
  · rename_i kt kd e k hm
    simp only [VR] at kk
    subst kk
    obtain ⟨hu, hku⟩ := mapInfo_spec hm
    split at h
    · rename_i hfit
      cases ho : mget μ kd ck x with
      | none => simp [ho] at h
      | some o =>
        rw [ho] at h
        obtain ⟨es, r, hr, hro, hes⟩ := mget_spec hs hku hfit ho kx
        have hck := fun em => run_checkKey (P := P) hku em 9999 ck w
        cases r with
        | none =>
          cases o with
          | some _ => cases hro
          | none =>
            cases hz : zeroA P e with
            | none => simp [hz] at h
            | some z =>
              simp only [hz] at h; cases h
              obtain ⟨c, hc, rc⟩ := run_zero hz g
              refine ⟨if ok then .tuple #[c, .bool false] else c, ?_, ?_⟩
              · rcases hes with ⟨rfl, rfl⟩ | ⟨b, clk, rfl, hh⟩
                · simp [Instr.lookup, run_underlying hu, hck, hr, hc]
                · simp [Instr.lookup, run_underlying hu, hck, hr, hc, getObj, Sem.run, hh]
              · cases ok
                · exact rc
                · simp only [VR, if_true]; exact ⟨[c, .bool false], rfl, by simp only [VRs, VR]; exact ⟨c, _, rfl, rc, _, _, rfl, rfl, rfl⟩⟩
        | some jc =>
          obtain ⟨j, c⟩ := jc
          cases o with
          | none => cases hro
          | some v' =>
            cases h
            refine ⟨if ok then .tuple #[c, .bool true] else c, ?_, ?_⟩
            · rcases hes with ⟨rfl, rfl⟩ | ⟨b, clk, rfl, hh⟩
              · simp [Instr.lookup, run_underlying hu, hck, hr]
              · simp [Instr.lookup, run_underlying hu, hck, hr, getObj, Sem.run, hh]
            · cases ok
              · exact hro
              · simp only [VR, if_true]; exact ⟨[c, .bool true], rfl, by simp only [VRs, VR]; exact ⟨c, _, rfl, hro, _, _, rfl, rfl, rfl⟩⟩
    · cases h
  · cases h
/-! ### storing -/
def aMapPut (P : Program) (t : TypeId) (μ : AMem) (x k v : AVal) : Option AMem :=
  match mapInfo P t, x, k with
  | some (_, kk, _), .mp id, .lit k => if keyFit kk k then
      match μ.blks[id]? with
      | some (.map kk' es) => if kk' = kk then some { μ with blks := μ.blks.set id (.map kk (mput k v es)) } else none
      | _ => none
    else none
  | _, _, _ => none
theorem MR.length {g : Gh} : ∀ {es : List (Value × AVal)} {ms : List MapEntry}, MR g es ms → ms.length = es.length
  | [], ms, h => by simp only [MR] at h; simp [h]
  | e :: es, ms, h => by simp only [MR] at h; obtain ⟨m, ms', rfl, _, _, h⟩ := h; simp [MR.length h]
theorem MR.set {g : Gh} {k : Value} {v : AVal} {c : MapEntry} (hk : c.key = k) (hv : VR g v c.val) : ∀ (es : List (Value × AVal)) (ms : List MapEntry) (j : Nat), MR g es ms → MR g (es.set j (k, v)) (ms.set j c)
  | [], ms, j, h => by simp only [MR] at h; subst h; simp [MR]
  | e :: es, ms, j, h => by
    simp only [MR] at h
    obtain ⟨m, ms', rfl, h1, h2, h⟩ := h
    cases j with
    | zero => simp only [List.set, MR]; exact ⟨c, ms', rfl, hk, hv, h⟩
    | succ j => simp only [List.set, MR]; exact ⟨m, ms'.set j c, rfl, h1, h2, MR.set hk hv es ms' j h⟩
theorem MR.snoc {g : Gh} {k : Value} {v : AVal} {c : MapEntry} (hk : c.key = k) (hv : VR g v c.val) : ∀ (es : List (Value × AVal)) (ms : List MapEntry), MR g es ms → MR g (es ++ [(k, v)]) (ms ++ [c])
  | [], ms, h => by simp only [MR] at h; subst h; simp only [List.nil_append, MR]; exact ⟨c, [], rfl, hk, hv, rfl⟩
  | e :: es, ms, h => by
    simp only [MR] at h
    obtain ⟨m, ms', rfl, h1, h2, h⟩ := h
    simp only [List.cons_append, MR]; exact ⟨m, ms' ++ [c], rfl, h1, h2, MR.snoc hk hv es ms' h⟩
theorem sameBits_of_fit {kk : KeyK} {a b : Value} (ha : keyFit kk a = true) (hb : keyFit kk b = true) (h : keyEq a b = true) : Instr.sameBits 10000 b a = true := by
  cases kk <;> cases a <;> simp only [keyFit] at ha <;> try (cases ha; done)
  · cases b <;> simp only [keyFit] at hb <;> try (cases hb; done)
    simp only [keyEq, decide_eq_true_eq] at h
    subst h
    simp only [Instr.sameBits]
    rw [beq_toListBytes]; simp
  · cases b <;> simp only [keyFit] at hb <;> try (cases hb; done)
    simp only [decide_eq_true_eq, keyEq] at ha hb h
    subst ha; subst hb; subst h
    simp [Instr.sameBits]
  · cases b <;> simp only [keyFit] at hb <;> try (cases hb; done)
    simp only [keyEq, beq_iff_eq] at h
    subst h
    simp [Instr.sameBits]
theorem mput_keys {k : Value} {v : AVal} {kk : KeyK} (hk : keyFit kk k = true) : ∀ (es : List (Value × AVal)), (∀ e ∈ es, keyFit kk e.1 = true) → ∀ e ∈ mput k v es, keyFit kk e.1 = true
  | [], _, e, he => by simp only [mput, List.mem_singleton] at he; subst he; exact hk
  | x :: es, hf, e, he => by
    simp only [mput] at he
    split at he
    · rcases List.mem_cons.1 he with rfl | he
      · exact hk
      · exact hf e (by simp [he])
    · rcases List.mem_cons.1 he with rfl | he
      · exact hf _ (by simp)
      · exact mput_keys hk es (fun x hx => hf x (by simp [hx])) e he
theorem run_aMapPut {P : Program} {g : Gh} {w : World} {μ μ' : AMem} (hs : Sim P g w μ) {t : TypeId} {x k v : AVal} {cx ck cv : Value} (h : aMapPut P t μ x k v = some μ') (kx : VR g x cx) (kk : VR g k ck) (kv : VR g v cv) :
    ∃ w', (Instr.mapUpdate t cx ck cv).run P w = .ok () w' ∧ Sim P g w' μ' ∧ St g w μ g w' μ' := by
  unfold aMapPut at h
  split at h
  · rename_i kt kd e id k hm
    simp only [VR] at kk kx
    subst kk
    obtain ⟨b, hb, rfl⟩ := kx
    obtain ⟨hu, hku⟩ := mapInfo_spec hm
    split at h
    · rename_i hfit
      split at h
      · rename_i kk' es hes
        split at h
        · rename_i hkk
          subst hkk
          cases h
          have hbr := hs.blk id b _ hb hes
          simp only [BR] at hbr
          obtain ⟨ms, clk, hh, hmr, hf, hborn, hord⟩ := hbr
          have hck := fun em => run_checkKey (P := P) hku em 9999 ck w
          have hblt : b < w.heap.size := (Array.getElem?_eq_some_iff.1 hh).1
          have fin : ∀ (ms' : List MapEntry) (clk' : Nat), MR g (mput ck v es) ms' → (∀ m ∈ ms', m.born < clk') → ms'.Pairwise (fun x y => x.born < y.born) →
              (Instr.mapUpdate t (.map (some b)) ck cv).run P w = .ok () { w with heap := w.heap.setIfInBounds b (.map ⟨ms'⟩ clk') } →
              ∃ w', (Instr.mapUpdate t (.map (some b)) ck cv).run P w = .ok () w' ∧ Sim P g w' { μ with blks := μ.blks.set id (.map kk' (mput ck v es)) } ∧ St g w μ g w' { μ with blks := μ.blks.set id (.map kk' (mput ck v es)) } := by
            intro ms' clk' hm' hb' ho' hrun
            refine ⟨_, hrun, ?_⟩
            refine Sim.write hs hb hes rfl rfl rfl rfl (by simp) (fun c hc => by simp [Array.getElem?_setIfInBounds_ne (Ne.symm hc)]) ?_
            simp only [BR]
            exact ⟨ms', clk', by simp [hblt], hm', mput_keys hfit es hf, hb', ho'⟩
          rcases findNow_spec hfit es ms 0 hmr hf with ⟨h1, h2, h3⟩ | ⟨j, v', m, h1, h2, h4, h5, h6, h7⟩
          · refine fin (ms ++ [{ key := ck, val := cv, born := clk }]) (clk + 1) (by rw [h3]; exact MR.snoc (c := { key := ck, val := cv, born := clk }) rfl kv es ms hmr) ?_ ?_ ?_
            · intro m hm'
              rcases List.mem_append.1 hm' with hm' | hm'
              · have := hborn m hm'; omega
              · simp only [List.mem_singleton] at hm'; subst hm'; simp
            · refine List.pairwise_append.2 ⟨hord, by simp, fun a ha b' hb' => ?_⟩
              simp only [List.mem_singleton] at hb'; subst hb'; exact hborn a ha
            · have hfk := run_findKey (P := P) hku h2 w
              simp [Instr.mapUpdate, run_underlying hu, getObj, Sem.run, hh, hck, hfk, setObj]
          · rw [Nat.zero_add] at h2
            obtain ⟨hjl, hmj⟩ := List.getElem?_eq_some_iff.1 h4
            have hmk : keyFit kk' m.key = true := by
              have hl := hmr.length
              have : ∀ (es : List (Value × AVal)) (ms : List MapEntry) (j : Nat) (m : MapEntry), MR g es ms → ms[j]? = some m → ∃ e ∈ es, m.key = e.1 := by
                intro es
                induction es with
                | nil => intro ms j m h hj; simp only [MR] at h; subst h; simp at hj
                | cons e es ih =>
                  intro ms j m h hj
                  simp only [MR] at h
                  obtain ⟨m0, ms', rfl, h1, _, h⟩ := h
                  cases j with
                  | zero => simp at hj; subst hj; exact ⟨e, by simp, h1⟩
                  | succ j => simp at hj; obtain ⟨e', he', hk'⟩ := ih ms' j m h hj; exact ⟨e', by simp [he'], hk'⟩
              obtain ⟨e, he, hk'⟩ := this es ms j m hmr h4
              rw [hk']; exact hf e he
            refine fin (ms.set j { key := ck, val := cv, born := m.born }) clk (by rw [h7]; exact MR.set (c := { key := ck, val := cv, born := m.born }) rfl kv es ms j hmr) ?_ ?_ ?_
            · intro x hx
              rcases List.mem_or_eq_of_mem_set hx with hx | rfl
              · exact hborn x hx
              · exact hborn m (List.mem_of_getElem? h4)
            · have e1 : (ms.set j { key := ck, val := cv, born := m.born }).map (·.born) = ms.map (·.born) := by
                apply List.ext_getElem?
                intro i
                by_cases hij : j = i
                · subst hij; simp [h4, hjl, hmj]
                · simp [List.getElem?_set_ne hij]
              have := List.pairwise_map.2 hord
              rw [← e1] at this
              exact List.pairwise_map.1 this
            · have hfk := run_findKey (P := P) hku h2 w
              have hsb := sameBits_of_fit hfit hmk h5
              have hmod : ms.modify j (fun e => { e with key := ck, val := cv }) = ms.set j { key := ck, val := cv, born := m.born } := by
                apply List.ext_getElem?
                intro i
                simp only [List.getElem?_modify, List.getElem?_set]
                split
                · rename_i hij; subst hij; simp [h4, hjl, hmj]
                · simp
              simp [Instr.mapUpdate, run_underlying hu, getObj, Sem.run, hh, hck, hfk, setObj, Instr.keyThatStays, h4, hsb, hmod]
        · cases h
      · cases h
    · cases h
  · cases h
/-! ### an entry, and its value (in an assignment of several) -/
theorem mput_mfind {k : Value} {v : AVal} : ∀ (es : List (Value × AVal)), mfind k es = none → mput k v es = es ++ [(k, v)]
  | [], _ => rfl
  | e :: es, h => by
    simp only [mfind] at h
    split at h
    · cases h
    · rename_i hk
      simp only [mput, hk, if_false, Bool.false_eq_true, List.cons_append]
      rw [mput_mfind es h]
/-- g, with a number for a stamp. -/
def Gh.note (g : Gh) (s b born : Nat) : Gh := { g with T := fun r => if r = s then some (b, born, 0, 0) else g.T r }
theorem Gh.le_note {g : Gh} {s b born : Nat} (h : g.T s = none) : g.le (g.note s b born) :=
  ⟨fun _ _ e => e, fun _ _ _ e => e, fun r y e => by
    simp only [Gh.note]; split
    · subst_vars; rw [h] at e; cases e
    · exact e, fun _ _ e => e⟩
theorem Sim.note {P : Program} {g : Gh} {w : World} {μ : AMem} (h : Sim P g w μ) {b : Nat} (born : Nat) (hb : b < w.heap.size) :
    Sim P (g.note μ.nx b born) w { μ with nx := μ.nx + 1 } ∧ St g w μ (g.note μ.nx b born) w { μ with nx := μ.nx + 1 } := by
  have hs : g.T μ.nx = none := h.tf _ (Nat.le_refl _)
  have hsl : μ.nx ∉ μ.lv := fun hx => Nat.lt_irrefl _ (h.ll _ hx)
  have hle : g.le (g.note μ.nx b born) := Gh.le_note hs
  have hT : ∀ r y, r ∈ μ.lv → (g.note μ.nx b born).T r = some y → g.T r = some y := by
    intro r y hr ht
    simp only [Gh.note] at ht
    split at ht
    · subst_vars; exact absurd hr hsl
    · exact ht
  constructor
  · constructor
    · exact h.lt
    · exact h.inj
    · exact h.cpl
    · intro i b' k e hk; exact BR.mono hle rfl (h.blk i b' k e hk)
    · exact h.imm
    · exact h.sep
    · intro s b' c n e ht
      simp only [Gh.note] at ht
      split at ht
      · cases ht; exact hb
      · exact h.tlt s b' c n e ht
    · intro s b' c n e hs' ht; exact h.tk s b' c n e hs' (hT s _ hs' ht)
    · intro s b' c n e i k hs' ht hi hk; exact h.tsep s b' c n e i k hs' (hT s _ hs' ht) hi hk
    · intro s s' b' c n e c' n' e' h1 h2 ht ht'; exact h.tinj s s' b' c n e c' n' e' h1 h2 (hT s _ h1 ht) (hT s' _ h2 ht')
    · exact h.nd
    · intro s hs'; exact Nat.lt_succ_of_lt (h.ll s hs')
    · intro s hs'
      simp only [Gh.note]
      have hs' : μ.nx + 1 ≤ s := hs'
      rw [if_neg (by omega)]
      exact h.tf s (by omega)
    · intro b' cs e; exact VC.mono hle _ _ _ (h.gl b' cs e)
  · refine ⟨hle, fun _ _ => rfl, Nat.le_refl _, fun _ _ _ _ => rfl, .refl g μ w, ?_⟩
    rintro b' _ (⟨i, hi⟩ | ⟨s, hs', c, n, e, ht⟩)
    · exact .inl ⟨i, hi⟩
    · exact .inr ⟨s, hs', c, n, e, hT s _ hs' ht⟩
end Go.Proofs.YtjleeecaebgblaaGreatDoor.AL
namespace Go.Proofs.YtjleeecaebgblaaGreatDoor.AL
open Go.RowKit
/-- g, with all cells of block b known for good. -/
def Gh.know (g : Gh) (b : Nat) (vs : List Value) : Gh := { g with H := fun c p => if c = b then vs[p]? else g.H c p }
theorem Gh.le_know {g : Gh} {b : Nat} {vs : List Value} (h : ∀ p, g.H b p = none) : g.le (g.know b vs) :=
  ⟨fun _ _ e => e, fun c p v e => by
    simp only [Gh.know]; split
    · subst_vars; rw [h p] at e; cases e
    · exact e, fun _ _ e => e, fun _ _ e => e⟩
theorem freeze_at {w : World} {b m : Nat} {cs : Array Value} {t : TypeId} (h : w.heap[b]? = some (.cells cs t (0, 0))) : (w.freeze ⟨b, m, none⟩ 1).heap[b]? = some (.cells cs t (m, m + 1)) := by
  simp only [World.freeze]
  rw [if_neg (by decide)]
  simp only [Array.getElem?_modify, if_true, h, Option.map_some]
  rfl
theorem freeze_other {w : World} {b m x : Nat} (h : x ≠ b) : (w.freeze ⟨b, m, none⟩ 1).heap[x]? = w.heap[x]? := by
  simp only [World.freeze]
  rw [if_neg (by decide)]
  simp only [Array.getElem?_modify]
  rw [if_neg (fun e => h e.symm)]
theorem freeze_size {w : World} {b m : Nat} : (w.freeze ⟨b, m, none⟩ 1).heap.size = w.heap.size := by
  simp only [World.freeze]
  rw [if_neg (by decide)]
  simp
/-- A BLOCK OF THE ABSTRACT MEMORY NEVER CHANGES FROM NOW ON. -/
theorem Sim.mark {P : Program} {g : Gh} {w : World} {μ : AMem} (h : Sim P g w μ) {i b m : Nat} {t : TypeId} {cs : List AVal} {vs : List Value} (hi : g.φ i = some b) (hk : μ.blks[i]? = some (.cells t cs))
    (hh : w.heap[b]? = some (.cells ⟨vs⟩ t (0, 0))) :
    Sim P (g.know b vs) (w.freeze ⟨b, m, none⟩ 1) { μ with blks := μ.blks.set i .dead } ∧ St g w μ (g.know b vs) (w.freeze ⟨b, m, none⟩ 1) { μ with blks := μ.blks.set i .dead } := by
  have hn : ∀ p, g.H b p = none := fun p => h.sep i b _ p hi hk rfl
  have hle := Gh.le_know (vs := vs) hn
  have old : ∀ (j : Nat) (x : ABlk), (μ.blks.set i .dead)[j]? = some x → x = .dead ∨ (j ≠ i ∧ μ.blks[j]? = some x) := by
    intro j x hx
    by_cases hji : i = j
    · subst hji
      left
      rw [List.getElem?_set] at hx
      simp only [if_true] at hx
      split at hx <;> cases hx
      rfl
    · rw [List.getElem?_set_ne hji] at hx; exact .inr ⟨fun e => hji e.symm, hx⟩
  have only : ∀ j x k, g.φ j = some x → μ.blks[j]? = some k → j ≠ i → k.isDead = false → x ≠ b := fun j x k e hk' hne hd hx => by
    subst hx
    exact hne (h.inj j i x k _ e hi hk' hk hd rfl)
  have nolive : ∀ s x c n e, s ∈ μ.lv → g.T s = some (x, c, n, e) → x ≠ b := fun s x c n e hs ht hx => by
    subst hx
    have := h.tsep s x c n e i _ hs ht hi hk
    cases this
  constructor
  · constructor
    · intro j x e; have := h.lt j x e; rw [freeze_size]; simp; omega
    · intro j1 j2 x k1 k2 e1 e2 h1 h2 d1 d2
      rcases old j1 k1 h1 with rfl | ⟨_, h1⟩
      · cases d1
      rcases old j2 k2 h2 with rfl | ⟨_, h2⟩
      · cases d2
      exact h.inj j1 j2 x k1 k2 e1 e2 h1 h2 d1 d2
    · exact h.cpl
    · intro j x k e hk'
      rcases old j k hk' with rfl | ⟨hne, hk'⟩
      · simp [BR]
      · cases hd : k.isDead with
        | true => cases k <;> first | (simp only [BR]; done) | cases hd
        | false => exact BR.mono hle (freeze_other (only j x k e hk' hne hd)) (h.blk j x k e hk')
    · intro c o v e
      simp only [Gh.know] at e
      split at e
      · rename_i hc; subst hc
        exact ⟨_, _, _, freeze_at hh, by simpa using e⟩
      · rename_i hc
        obtain ⟨cs0, t0, fr, h1, h2⟩ := h.imm c o v e
        exact ⟨cs0, t0, fr, (freeze_other hc).trans h1, h2⟩
    · intro j x k o e hk' hd
      rcases old j k hk' with rfl | ⟨hne, hk'⟩
      · cases hd
      · have hx := only j x k e hk' hne hd
        simp only [Gh.know]; rw [if_neg hx]
        exact h.sep j x k o e hk' hd
    · intro s x c n e ht; rw [freeze_size]; exact h.tlt s x c n e ht
    · intro s x c n e hs ht
      have hx := nolive s x c n e hs ht
      obtain ⟨cs0, h1, h2, h3⟩ := h.tk s x c n e hs ht
      exact ⟨cs0, (freeze_other hx).trans h1, h2, fun o ho => by simp only [Gh.know]; rw [if_neg hx]; exact h3 o ho⟩
    · intro s x c n e j k hs ht hj hk'
      rcases old j k hk' with rfl | ⟨_, hk'⟩
      · rfl
      · exact h.tsep s x c n e j k hs ht hj hk'
    · exact h.tinj
    · exact h.nd
    · exact h.ll
    · exact h.tf
    · intro c cs' e; exact VC.mono hle _ _ _ (h.gl c cs' e)
  · refine ⟨hle, fun _ _ => rfl, by simp, fun c o hc ho => ?_, ⟨by simp only [World.freeze]; rw [if_neg (by decide)], by simp only [World.freeze]; rw [if_neg (by decide)], by simp only [World.freeze]; rw [if_neg (by decide)], by rw [freeze_size]; exact Nat.le_refl _, fun c hc ho => ?_⟩, fun c hc ho => ho⟩
    · simp only [Gh.know]; rw [if_neg]
      intro e; subst e; exact ho (.inl ⟨i, hi⟩)
    · exact freeze_other fun e => by subst e; exact ho (.inl ⟨i, hi⟩)
theorem VC_know {g : Gh} {b : Nat} {vs : List Value} {cs : List AVal} (h : VRs (g.know b vs) cs vs) : VC (g.know b vs) b 0 cs :=
  VC.of fun i a hi => by
    obtain ⟨v, e, r⟩ := h.get i a hi
    exact ⟨v, by simp only [Gh.know, if_true, Nat.zero_add]; exact e, r⟩
/-- THE MARK. -/
theorem run_mark {P : Program} {g : Gh} {w : World} {μ : AMem} (hs : Sim P g w μ) {t e : TypeId} (ht : P.underlying t = some (.slice e)) (he : P.underlying e = some (.int .u8)) {i n : Nat} {bt : TypeId} {cs : List AVal} {cx : Value}
    (hk : μ.blks[i]? = some (.cells bt cs)) (hl : cs.length = n) (kx : VR g (.ms i 0 n .full) cx) :
    ∃ c w' g', (convert t t cx).run P w = .ok c w' ∧ VR g' (.sl n cs .full) c ∧ Sim P g' w' { μ with blks := μ.blks.set i .dead } ∧ St g w μ g' w' { μ with blks := μ.blks.set i .dead } := by
  simp only [VR] at kx
  obtain ⟨b, c, hb, rfl, hnc, htk⟩ := kx
  have hbr := hs.blk i b _ hb hk
  simp only [BR] at hbr
  obtain ⟨vs, hh, hv⟩ := hbr
  obtain ⟨h1, h2⟩ := Sim.mark (m := (⟨vs⟩ : Array Value).size) hs hb hk hh
  have hsh : w.shape? b = some (bt, (⟨vs⟩ : Array Value).size) := by
    unfold World.shape?
    rw [hh]
  refine ⟨.slice (some ⟨b, 0, none⟩) n c, _, _, ?_, ?_, h1, h2⟩
  · simp [convert, run_underlying ht, run_underlying he, markStringish, hsh]
  · simp only [VR]
    exact ⟨_, c, rfl, hnc, htk, .inr ⟨b, 0, rfl, VC_know (VRs.mono h2.le _ _ hv)⟩⟩
end Go.Proofs.YtjleeecaebgblaaGreatDoor.AL
