/- The walk of MutateCounts. -/
import Derived.Test.YtkgbfadglaepfaaGreatDoorK3
import Derived.Test.YtkgbfadglaepfaaGreatDoorB4
import Derived.Test.YtkgbfadglaepfaaGreatDoorA9
set_option linter.all false
namespace Go.Proofs.YtkgbfadglaepfaaGreatDoor.AL.K
open Go Go.Proofs.YtkgbfadglaepfaaGreatDoor.AL Go.RowKit
variable {P : Program}
noncomputable def mcell (k : Int) : List AVal := [.lit (.int .i64 k), .lit (bS []), .sl 0 [] .full, .lit (.bool false), .lit (.int .i64 (.ofNat 0)), .lit (.int .i64 (.ofNat 0))]
noncomputable def mcells (ks : List Int) : List AVal := ks.flatMap mcell
theorem mcells_len : ∀ (ks : List Int), (mcells ks).length = ks.length * 6
  | [] => rfl
  | k :: ks => by
    have := mcells_len ks
    simp only [mcells, List.flatMap_cons, List.length_append, List.length_cons] at this ⊢
    rw [this]; simp [mcell]; omega
theorem mcells_drop : ∀ (ks : List Int) (i : Nat), (mcells ks).drop (i * 6) = mcells (ks.drop i)
  | ks, 0 => by simp
  | [], i + 1 => by simp [mcells]
  | k :: ks, i + 1 => by
    have := mcells_drop ks i
    simp only [mcells, List.flatMap_cons, List.drop_succ_cons] at this ⊢
    rw [List.drop_append]
    have h6 : (mcell k).length = 6 := rfl
    rw [List.drop_eq_nil_of_le (by rw [h6]; omega), h6, show (i + 1) * 6 - 6 = i * 6 by omega, this]
    rfl
theorem mcells_at {ks : List Int} {i : Nat} (h : i < ks.length) : (mcells ks).drop (i * 6) = mcell ks[i] ++ mcells (ks.drop (i + 1)) := by
  rw [mcells_drop, List.drop_eq_getElem_cons h]
  rfl
noncomputable def cnt (es : List (Value × AVal)) (k : Int) : Int := match mfind (.int .i64 k) es with
  | some (.lit (.int _ n)) => n
  | _ => 0
noncomputable def cstep (es : List (Value × AVal)) (k : Int) : List (Value × AVal) := mput (.int .i64 k) (.lit (.int .i64 (IntKind.i64.wrap (cnt es k + 1)))) es
noncomputable def ctab (ks : List Int) : List (Value × AVal) := ks.foldl cstep []
noncomputable def A5 (n : Nat) (cs : List AVal) (tk : Tk) (i : Nat) : ATmps := fun t =>
  if t = 3 then .mp 0 else if t = 7 then .sl n cs tk else if t = 8 then .lit (.int .i64 (n : Nat)) else if t = 9 then .lit (.int .i64 (i : Nat)) else .any
/-- Every count in the table is a number. -/
def nums (es : List (Value × AVal)) : Prop := ∀ e ∈ es, ∃ n, e.2 = .lit (.int .i64 n)
theorem mfind_nums {es : List (Value × AVal)} (h : nums es) (k : Value) : mfind k es = none ∨ ∃ n, mfind k es = some (.lit (.int .i64 n)) := by
  induction es with
  | nil => exact .inl rfl
  | cons e es ih =>
    simp only [mfind]
    split
    · obtain ⟨n, hn⟩ := h e (by simp); exact .inr ⟨n, by rw [hn]⟩
    · exact ih fun x hx => h x (by simp [hx])
theorem nums_mput {es : List (Value × AVal)} (h : nums es) (k : Value) (n : Int) : nums (mput k (.lit (.int .i64 n)) es) := by
  induction es with
  | nil => intro e he; simp [mput] at he; subst he; exact ⟨n, rfl⟩
  | cons e es ih =>
    intro x hx
    simp only [mput] at hx
    split at hx
    · rcases List.mem_cons.1 hx with rfl | hx
      · exact ⟨n, rfl⟩
      · exact h x (by simp [hx])
    · rcases List.mem_cons.1 hx with rfl | hx
      · exact h _ (by simp)
      · exact ih (fun x hx => h x (by simp [hx])) x hx
theorem nums_ctab (ks : List Int) : nums (ctab ks) := by
  unfold ctab
  have : ∀ es, nums es → nums (ks.foldl cstep es) := by
    induction ks with
    | nil => intro es h; exact h
    | cons k ks ih => intro es h; exact ih _ (nums_mput h _ _)
  exact this [] (fun e he => by cases he)
theorem ctab_succ {ks : List Int} {i : Nat} (h : i < ks.length) : ctab (ks.take (i + 1)) = cstep (ctab (ks.take i)) ks[i] := by
  unfold ctab
  rw [List.take_succ_eq_append_getElem h, List.foldl_append]
  rfl
theorem Clean_nums {k s : Nat} {es : List (Value × AVal)} (h : nums es) : Cleans k s (es.map (·.2)) := by
  rw [Cleans_iff]
  intro c hc
  obtain ⟨e, he, rfl⟩ := List.mem_map.1 hc
  obtain ⟨n, hn⟩ := h e he
  rw [hn]; simp [Clean]
theorem Cleans_mcells {k s : Nat} (ks : List Int) : Cleans k s (mcells ks) := by
  rw [Cleans_iff]
  intro c hc
  obtain ⟨x, _, hx⟩ := List.mem_flatMap.1 hc
  simp only [mcell, List.mem_cons, List.not_mem_nil, or_false] at hx
  rcases hx with rfl | rfl | rfl | rfl | rfl | rfl <;> simp [Clean, Cleans]
theorem count_ok (hm : P.follows .mixedOrders = true) {mu : Nat → Nat → Bool} (hF : mkFn P mu 5 = some c5) (hcal : callable P 5 = true) {μ : AMem} (hb : μ.blks = []) (hlt : ∀ r ∈ μ.lv, r < μ.nx) (hnd : μ.lv.Nodup) (ks : List Int) (hn : ks.length ≤ 60) (tk : Tk) :
    calls P 5 [.sl ks.length (mcells ks) tk] μ (fun o μ' => o = .ret (.mp 0) ∧ μ' = { μ with blks := [.map (some .i64) (ctab ks)] }) := by
  refine ⟨hcal, ACalls.of hm hF (by simp [c5]) fun hw hcl => ?_⟩
  obtain ⟨blks, lv, nx, gl, df⟩ := μ
  simp only at hb hlt hnd
  subst hb
  have htk : Clean 0 nx (.sl ks.length (mcells ks) tk) := by simp only [Cleans] at hcl; exact hcl.1
  simp only [c5, AMem.bare, List.length_nil]
  rw [sy_seq, sy_region, sy_cons, sy_q]
  refine ⟨trivial, ?_⟩
  rw [sy_nil, sy_seq, sy_region, sy_cons, sy_n]
  refine ⟨trivial, ?_⟩
  rw [sy_cons, sy_q]
  refine ⟨trivial, ?_⟩
  rw [sy_nil, sy_seq, sy_seq, sy_region, sy_cons, sy_q]
  refine ⟨trivial, ?_⟩
  rw [sy_cons, sy_q]
  refine ⟨?_, ?_⟩
  · simp [QOp.sem, sy_tmp, sy_put, lenR, A0]
  rw [sy_cons, sy_q]
  refine ⟨trivial, ?_⟩
  rw [sy_nil, sy_block]
  refine sy_loop (fun i => i ≤ ks.length) (fun i => (A5 ks.length (mcells ks) tk i, { blks := [.map (some .i64) (ctab (ks.take i))], lv := lv, nx := nx, gl := gl, df := [] })) (fun i => ks.length - i) 0 (Nat.zero_le _) ?_ ?_
  · refine Wk.tmps (Nat.zero_le _) (Nat.le_refl _) ?_ hlt hnd (fun d hd => by cases hd) (fun r => if r < nx then some r else none) (fun r hr => if_pos hr) (fun r hr => if_neg (by have hr : nx ≤ r := hr; omega)) ?_ ?_ ?_
    · intro x hx
      simp only [NOp.sem, List.nil_append, List.mem_singleton] at hx
      subst hx
      simp [CleanB, Cleans]
    · intro r q hr hq; split at hq <;> cases hq; exact hr
    · intro r r' q hr hr' hq hq'
      split at hq <;> cases hq
      split at hq' <;> cases hq'
      rfl
    · intro t
      unfold A5
      by_cases h3 : t = 3
      · subst h3; simp [sy_put, sy_tmp, QOp.sem, NOp.sem]; exact .same _ (by simp [Clean])
      by_cases h7 : t = 7
      · subst h7; simp [sy_put, sy_tmp, QOp.sem, NOp.sem, A0]; exact .same _ (Clean.mono (Nat.zero_le _) (Nat.le_refl _) _ htk)
      by_cases h8 : t = 8
      · subst h8; simp [sy_put, sy_tmp, QOp.sem, NOp.sem, A0, lenR]; exact .same _ (by simp [Clean])
      by_cases h9 : t = 9
      · subst h9; simp [sy_put, sy_tmp, sy_int, QOp.sem, NOp.sem, A0, lenR]; exact .same _ (by simp [Clean])
      simp only [h3, h7, h8, h9, if_false]
      exact .any _
  · intro i hi
    rw [sy_seq, sy_region]
    by_cases hlt' : i < ks.length
    · simp [sy_cons, sy_nil, sy_q, QOp.sem, sy_tmp, sy_put, A5, binR, intBinR, sy_seq, sy_cond, cnd, sy_skip, hlt']
      rw [sy_block, sy_seq, sy_region]
      have hd := mcells_at hlt'
      have hcnt : lookR (.lit (.int .i64 0)) false (mfind (.int .i64 ks[i]) (ctab (ks.take i))) = .lit (.int .i64 (cnt (ctab (ks.take i)) ks[i])) := by
        unfold cnt
        rcases mfind_nums (nums_ctab (ks.take i)) (.int .i64 ks[i]) with h | ⟨n, h⟩ <;> rw [h] <;> rfl
      simp [sy_cons, sy_nil, sy_q, sy_n, sy_e, QOp.sem, NOp.sem, EOp.sem, sy_tmp, sy_put, sy_put0, A5, indexAddrR, loadR, derefS, storeR, shiftR, vcellsR, hlt', hd, mcell, bS, AVal.one, Value.oneCell', setAt, sy_region, lookupR, mgetR, keyFit, hcnt, sy_int, binR, intBinR, mapPutR]
      refine ⟨i + 1, hlt', by omega, ?_⟩
      have hct : mput (.int .i64 ks[i]) (.lit (.int .i64 (IntKind.i64.wrap (cnt (ctab (ks.take i)) ks[i] + 1)))) (ctab (ks.take i)) = ctab (ks.take (i + 1)) := (ctab_succ hlt').symm
      rw [hct]
      refine ⟨fun r => if r < nx then some r else none, ⟨Nat.zero_le _, Nat.le_refl _, ?_, fun r hr => if_pos hr, fun r hr => if_neg (by have hr : nx ≤ r := hr; omega), hlt, ?_, ?_, hnd, rfl, rfl, fun d hd => by cases hd⟩, ?_⟩
      · exact .cons _ _ _ _ (.same _ (Clean_nums (nums_ctab _))) (.nil _)
      · intro r q hr hq; split at hq <;> cases hq; exact hr
      · intro r r' q hr hr' hq hq'
        split at hq <;> cases hq
        split at hq' <;> cases hq'
        rfl
      · intro t
        unfold A5
        by_cases h3 : t = 3
        · subst h3; simp [sy_put, sy_tmp, QOp.sem, NOp.sem]; exact .same _ (by simp [Clean])
        by_cases h7 : t = 7
        · subst h7; simp [sy_put, sy_tmp, QOp.sem, NOp.sem, A0]; exact .same _ (Clean.mono (Nat.zero_le _) (Nat.le_refl _) _ htk)
        by_cases h8 : t = 8
        · subst h8; simp [sy_put, sy_tmp, QOp.sem, NOp.sem, A0, lenR]; exact .same _ (by simp [Clean])
        by_cases h9 : t = 9
        · subst h9
          simp [sy_put, sy_tmp, sy_int, QOp.sem, NOp.sem, A0, lenR]
          rw [IntWalk.i64_in _ (by omega)]
          exact .same _ (by simp [Clean])
        simp only [h3, h7, h8, h9, if_false]
        exact .any _
    · have hie : i = ks.length := by omega
      subst hie
      simp [sy_cons, sy_nil, sy_q, QOp.sem, sy_tmp, sy_put, A5, binR, intBinR, sy_seq, sy_cond, cnd, sy_exit, sy_blockE, hlt', sy_region, sy_ret, retE, retK, leaveA, retVs, oneOr, AMem.bare]
end Go.Proofs.YtkgbfadglaepfaaGreatDoor.AL.K
namespace Go.Proofs.YtkgbfadglaepfaaGreatDoor.AL.K
open Go Go.Proofs.YtkgbfadglaepfaaGreatDoor.AL Go.RowKit
variable {P : Program}
/-! ### the plain law -/
def wantN (ks : List Int) (x : Int) : Nat → Nat
  | 0 => 0
  | k + 1 => if ks[k]? = some x then wantN ks x k + 1 else wantN ks x k
def fl (ks : List Int) (x : Int) (i : Nat) : Nat → Bool
  | 0 => true
  | k + 1 => if ks[k]? = some x then fl ks x i k && decide (i ≤ k) else fl ks x i k
theorem wantN_le (ks : List Int) (x : Int) : ∀ k, wantN ks x k ≤ k
  | 0 => Nat.le_refl _
  | k + 1 => by have := wantN_le ks x k; simp only [wantN]; split <;> omega
theorem fl_eq (ks : List Int) (x : Int) (i : Nat) : ∀ k, fl ks x i k = decide (wantN ks x (min k i) = 0)
  | 0 => by simp [fl, wantN]
  | k + 1 => by
    simp only [fl, fl_eq ks x i k]
    rcases Nat.lt_or_ge k i with h | h
    · rw [Nat.min_eq_left (by omega), Nat.min_eq_left (by omega)]
      simp only [wantN]
      split
      · have : ¬ i ≤ k := by omega
        simp [this]
      · rfl
    · rw [Nat.min_eq_right (by omega), Nat.min_eq_right (by omega)]
      split
      · simp [h]
      · rfl
theorem keyEq_int (a b : Int) : keyEq (.int .i64 a) (.int .i64 b) = decide (a = b) := rfl
theorem mfind_mput (x y : Int) (v : AVal) : ∀ (es : List (Value × AVal)), mfind (.int .i64 x) (mput (.int .i64 y) v es) = if x = y then some v else mfind (.int .i64 x) es
  | [] => by
    simp only [mput, mfind, keyEq_int]
    by_cases h : x = y <;> simp [h]
  | e :: es => by
    simp only [mput]
    by_cases h : keyEq (.int .i64 y) e.1 = true
    · rw [if_pos h]
      simp only [mfind, keyEq_int]
      by_cases hx : x = y
      · simp [hx]
      · simp only [hx, decide_false, Bool.false_eq_true, if_false]
        have : keyEq (.int .i64 x) e.1 = false := by
          obtain ⟨k, w⟩ := e
          cases k <;> simp only [keyEq] at h ⊢ <;> first | rfl | cases h | skip
          simp only [decide_eq_true_eq, decide_eq_false_iff_not] at h ⊢
          rw [← h]; exact hx
        simp [this]
    · rw [if_neg h]
      simp only [mfind, mfind_mput x y v es]
      by_cases hx : x = y
      · subst hx; simp [h]
      · simp [hx]
theorem cnt_step (es : List (Value × AVal)) (x y : Int) : cnt (cstep es y) x = if x = y then IntKind.i64.wrap (cnt es y + 1) else cnt es x := by
  unfold cstep
  by_cases h : x = y
  · subst h
    rw [if_pos rfl]
    conv => lhs; unfold cnt
    rw [mfind_mput, if_pos rfl]
    rfl
  · rw [if_neg h]
    unfold cnt
    rw [mfind_mput, if_neg h]
theorem cnt_take {ks : List Int} (hn : ks.length ≤ 60) (x : Int) : ∀ k, k ≤ ks.length → cnt (ctab (ks.take k)) x = wantN ks x k
  | 0, _ => by simp [ctab, cnt, mfind, wantN]
  | k + 1, hk => by
    rw [ctab_succ (by omega), cnt_step, cnt_take hn _ k (by omega), cnt_take hn _ k (by omega)]
    simp only [wantN, List.getElem?_eq_getElem (show k < ks.length by omega), Option.some.injEq]
    by_cases h : x = ks[k]
    · subst h
      have := wantN_le ks ks[k] k
      rw [if_pos rfl, if_pos rfl, IntWalk.i64_in _ (by omega)]; rfl
    · rw [if_neg h, if_neg (fun e => h e.symm)]
theorem mfind_take {ks : List Int} (x : Int) : ∀ k, k ≤ ks.length → (mfind (.int .i64 x) (ctab (ks.take k)) = none ↔ wantN ks x k = 0)
  | 0, _ => by simp [ctab, mfind, wantN]
  | k + 1, hk => by
    rw [ctab_succ (by omega)]
    simp only [cstep, mfind_mput, wantN, List.getElem?_eq_getElem (show k < ks.length by omega), Option.some.injEq]
    by_cases h : x = ks[k]
    · simp [h]
    · rw [if_neg h, if_neg (fun e => h e.symm)]; exact mfind_take x k (by omega)
theorem mput_len (x : Int) (v : AVal) : ∀ (es : List (Value × AVal)), (mput (.int .i64 x) v es).length = es.length + (if mfind (.int .i64 x) es = none then 1 else 0)
  | [] => by simp [mput, mfind]
  | e :: es => by
    simp only [mput, mfind]
    by_cases h : keyEq (.int .i64 x) e.1 = true
    · simp [h]
    · simp only [h, if_false, Bool.false_eq_true, List.length_cons, mput_len x v es]; omega
theorem len_succ {ks : List Int} {i : Nat} (h : i < ks.length) : (ctab (ks.take (i + 1))).length = (ctab (ks.take i)).length + (if wantN ks ks[i] i = 0 then 1 else 0) := by
  rw [ctab_succ h, cstep, mput_len]
  simp only [mfind_take (ks := ks) ks[i] i (Nat.le_of_lt h)]
theorem len_le {ks : List Int} : ∀ i, i ≤ ks.length → (ctab (ks.take i)).length ≤ i
  | 0, _ => by simp [ctab]
  | i + 1, h => by
    have := len_le i (by omega : i ≤ ks.length)
    rw [len_succ (by omega)]; split <;> omega
end Go.Proofs.YtkgbfadglaepfaaGreatDoor.AL.K
namespace Go.Proofs.YtkgbfadglaepfaaGreatDoor.AL.K
open Go Go.Proofs.YtkgbfadglaepfaaGreatDoor.AL Go.RowKit
variable {P : Program}
noncomputable def kcells (ks : List Int) : List AVal := ks.map fun k => .lit (.int .i64 k)
theorem Cleans_kcells {k s : Nat} (ks : List Int) : Cleans k s (kcells ks) := by
  rw [Cleans_iff]
  intro c hc
  obtain ⟨x, _, rfl⟩ := List.mem_map.1 hc
  simp [Clean]
theorem kcells_at {ks : List Int} {i : Nat} (h : i < ks.length) : (kcells ks).drop i = .lit (.int .i64 ks[i]) :: kcells (ks.drop (i + 1)) := by
  unfold kcells
  rw [← List.map_drop, List.drop_eq_getElem_cons h]; rfl
noncomputable def M1 (gl : XG) : AMem := { blks := [], lv := [0], nx := 1, gl := gl, df := [] }
noncomputable def M2 (gl : XG) (ks : List Int) : AMem := { blks := [.map (some .i64) (ctab ks)], lv := [0], nx := 1, gl := gl, df := [] }
noncomputable def Aa (ks : List Int) (i : Nat) : ATmps := fun t =>
  if t = 0 then .sl ks.length (kcells ks) .no else if t = 3 then .sl i (mcells (ks.take i)) (.own 0 29) else if t = 4 then .lit (.int .i64 (i : Nat)) else .any
noncomputable def Ab (ks : List Int) (i : Nat) : ATmps := fun t =>
  if t = 3 then .sl ks.length (mcells ks) (.own 0 29) else if t = 5 then .mp 0 else if t = 6 then .lit (.int .i64 ((ctab (ks.take i)).length : Nat)) else if t = 7 then .lit (.int .i64 (i : Nat)) else .any
noncomputable def Ac (ks : List Int) (i : Nat) (x : Int) (k : Nat) : ATmps := fun t =>
  if t = 3 then .sl ks.length (mcells ks) (.own 0 29) else if t = 5 then .mp 0 else if t = 6 then .lit (.int .i64 ((ctab (ks.take i)).length : Nat)) else if t = 7 then .lit (.int .i64 (i : Nat))
  else if t = 8 then .lit (.int .i64 (wantN ks x k : Nat)) else if t = 9 then .lit (.bool (fl ks x i k)) else if t = 10 then .lit (.int .i64 (k : Nat)) else .any
def ρ1 (q : Nat) : Nat → Option Nat := fun r => if r = 0 then some q else none
theorem MW1 {A A' : ATmps} {q : Nat} {gl : XG} {l l' : List ABlk} (nx : Nat) (hB : BWs l'.length 0 1 (ρ1 q) l l') (hv : ∀ t, VW l'.length 0 1 (ρ1 q) (A t) (A' t)) :
    Wk { k := 0, s := 0, r := none } A { blks := l, lv := [q], nx := nx, gl := gl, df := [] } A' { blks := l', lv := [0], nx := 1, gl := gl, df := [] } := by
  refine ⟨ρ1 q, ⟨Nat.zero_le _, Nat.zero_le _, hB, fun r hr => absurd hr (Nat.not_lt_zero _), ?_, ?_, ?_, ?_, by simp, rfl, rfl, fun d hd => (by cases hd)⟩, hv⟩
  · intro r hr
    have hr : 1 ≤ r := hr
    exact if_neg (by omega)
  · intro r hr; simp only [List.mem_singleton] at hr; subst hr; exact Nat.zero_lt_one
  · intro r q' hr h; simp only [List.mem_singleton] at hr; subst hr; simp only [ρ1, if_true, Option.some.injEq] at h; simp [h]
  · intro r r' q' hr hr' _ _; simp only [List.mem_singleton] at hr hr'; rw [hr, hr']
theorem mcells_snoc {ks : List Int} {i : Nat} (h : i < ks.length) : mcells (ks.take (i + 1)) = mcells (ks.take i) ++ mcell ks[i] := by
  rw [List.take_succ_eq_append_getElem h]; simp only [mcells, List.flatMap_append, List.flatMap_cons, List.flatMap_nil, List.append_nil]
theorem wkAc {gl : XG} {ks : List Int} {i k : Nat} {x : Int} {A : ATmps} (h3 : A 3 = .sl ks.length (mcells ks) (.own 0 29)) (h5 : A 5 = .mp 0) (h6 : A 6 = .lit (.int .i64 ((ctab (ks.take i)).length : Nat))) (h7 : A 7 = .lit (.int .i64 (i : Nat)))
    (h8 : A 8 = .lit (.int .i64 (wantN ks x k : Nat))) (h9 : A 9 = .lit (.bool (fl ks x i k))) (h10 : A 10 = .lit (.int .i64 (k : Nat))) : Wk { k := 0, s := 0, r := none } A (M2 gl ks) (Ac ks i x k) (M2 gl ks) := by
  refine MW1 _ (.cons _ _ _ _ (.same _ (Clean_nums (nums_ctab _))) (.nil _)) fun t => ?_
  unfold Ac
  by_cases e3 : t = 3
  · subst e3; simp [h3]; exact .sl _ _ _ _ (Cleans_mcells _) ⟨rfl, rfl⟩
  by_cases e5 : t = 5
  · subst e5; simp [h5]; exact .same _ (by simp [Clean])
  by_cases e6 : t = 6
  · subst e6; simp [h6]; exact .same _ (by simp [Clean])
  by_cases e7 : t = 7
  · subst e7; simp [h7]; exact .same _ (by simp [Clean])
  by_cases e8 : t = 8
  · subst e8; simp [h8]; exact .same _ (by simp [Clean])
  by_cases e9 : t = 9
  · subst e9; simp [h9]; exact .same _ (by simp [Clean])
  by_cases e10 : t = 10
  · subst e10; simp [h10]; exact .same _ (by simp [Clean])
  simp only [e3, e5, e6, e7, e8, e9, e10, if_false]
  exact .any _
theorem wkAb {gl : XG} {ks : List Int} {i : Nat} {A : ATmps} (h3 : A 3 = .sl ks.length (mcells ks) (.own 0 29)) (h5 : A 5 = .mp 0) (h6 : A 6 = .lit (.int .i64 ((ctab (ks.take i)).length : Nat))) (h7 : A 7 = .lit (.int .i64 (i : Nat))) : Wk { k := 0, s := 0, r := none } A (M2 gl ks) (Ab ks i) (M2 gl ks) := by
  refine MW1 _ (.cons _ _ _ _ (.same _ (Clean_nums (nums_ctab _))) (.nil _)) fun t => ?_
  unfold Ab
  by_cases e3 : t = 3
  · subst e3; simp [h3]; exact .sl _ _ _ _ (Cleans_mcells _) ⟨rfl, rfl⟩
  by_cases e5 : t = 5
  · subst e5; simp [h5]; exact .same _ (by simp [Clean])
  by_cases e6 : t = 6
  · subst e6; simp [h6]; exact .same _ (by simp [Clean])
  by_cases e7 : t = 7
  · subst e7; simp [h7]; exact .same _ (by simp [Clean])
  simp only [e3, e5, e6, e7, if_false]
  exact .any _
theorem law_ok (hm : P.follows .mixedOrders = true) {mu : Nat → Nat → Bool} (hF : mkFn P mu 3 = some c3) (hcal : callable P 3 = true) {mu5 : Nat → Nat → Bool} (hF5 : mkFn P mu5 5 = some c5) (hcal5 : callable P 5 = true) {gl : XG}
    (hk : ∀ μ : AMem, μ.gl = gl → calls P 4 [] μ (fun o μ' => o = .ret (.lit (.bool true)) ∧ μ' = μ)) (ks : List Int) :
    calls P 3 [.sl ks.length (kcells ks) .no] (AMem.none gl) (fun o μ' => o = .ret (.lit (.bool true))) := by
  refine ⟨hcal, ACalls.of hm hF (by simp [c3]) fun hw hcl => ?_⟩
  simp only [c3, AMem.bare, AMem.none, List.length_nil]
  rw [sy_seq, sy_region]
  simp only [sy_cons, sy_nil, sy_q]
  refine ⟨trivial, ?_⟩
  rw [sy_seq, sy_seq, sy_region]
  by_cases hn : ks.length ≤ 60
  rotate_left
  · have hgt : (60 : Int) < (ks.length : Nat) := by omega
    simp [sy_cons, sy_nil, sy_q, QOp.sem, sy_tmp, sy_put, sy_int, sy_bool, A0, lenR, binR, intBinR, sy_cond, cnd, hgt, sy_seq, sy_region, sy_call]
    refine ⟨(hk { blks := [], lv := [], nx := 0, gl := gl, df := [] } rfl).1, (hk { blks := [], lv := [], nx := 0, gl := gl, df := [] } rfl).2.mono ?_⟩
    rintro o μ' ⟨rfl, rfl⟩
    simp [afterCall, sy_cons, sy_nil, sy_q, QOp.sem, sy_tmp, sy_put, sy_ret, retE, retK, leaveA, retVs, oneOr]
  have hng : ¬ (60 : Int) < (ks.length : Nat) := by omega
  simp [sy_cons, sy_nil, sy_q, QOp.sem, sy_tmp, sy_put, sy_int, sy_bool, A0, lenR, binR, intBinR, sy_cond, cnd, hng, sy_skip]
  rw [sy_seq, sy_region]
  simp only [sy_cons, sy_nil, sy_q]
  refine ⟨trivial, ?_⟩
  rw [sy_seq, sy_seq, sy_region]
  simp only [sy_cons, sy_nil, sy_q]
  refine ⟨trivial, ?_⟩
  rw [sy_block]
  refine sy_loop (fun i => i ≤ ks.length) (fun i => (Aa ks i, M1 gl)) (fun i => ks.length - i) 0 (Nat.zero_le _) ?_ ?_
  · refine ⟨fun _ => none, ⟨Nat.zero_le _, Nat.zero_le _, .nil _, fun r hr => (by cases hr), fun r hr => rfl, ?_, fun r q _ h => (by cases h), fun r r' q _ _ h => (by cases h), by simp [M1], rfl, rfl, fun d hd => (by cases hd)⟩, ?_⟩
    · intro r hr; simp [M1] at hr ⊢; omega
    · intro t
      unfold Aa
      by_cases h0 : t = 0
      · subst h0; simp [sy_put, sy_tmp, QOp.sem, A0]; exact .same _ (by simp only [Clean]; exact ⟨Cleans_kcells ks, trivial⟩)
      by_cases h3 : t = 3
      · subst h3; simp [sy_put, sy_tmp, sy_nilsl, QOp.sem, A0, mcells]; exact .sl _ _ _ _ (by simp [Cleans]) ⟨by simp [M1], rfl⟩
      by_cases h4 : t = 4
      · subst h4; simp [sy_put, sy_tmp, sy_int, QOp.sem, A0]; exact .same _ (by simp [Clean])
      simp only [h0, h3, h4, if_false]
      exact .any _
  · intro i hi
    rw [sy_seq, sy_seq, sy_region]
    by_cases hlt : i < ks.length
    · have hlt' : (i : Int) < (ks.length : Nat) := by omega
      simp [sy_cons, sy_nil, sy_q, QOp.sem, sy_tmp, sy_put, Aa, lenR, binR, intBinR, sy_cond, cnd, sy_skip, hlt']
      have hd : (kcells ks).drop i = .lit (.int .i64 ks[i]) :: kcells (ks.drop (i + 1)) := kcells_at hlt
      have hmc : (mcells (ks.take i)).length = i * 6 := by rw [mcells_len, List.length_take, Nat.min_eq_left (by omega)]
      generalize blockE 0 _ _ = E0
      rw [sy_seq, sy_block, sy_region]
      simp [sy_cons, sy_nil, sy_q, sy_e, QOp.sem, EOp.sem, sy_tmp, sy_put, sy_put0, Aa, indexAddrR, loadR, derefS, shiftR, hlt', hd, buildR, bsliceR, partsA, aFill, Places.get, vcells, AVal.one, Value.oneCell', setAt, aSeq, appendR, asrc, CanApp, appLv, hmc, M1, binR, intBinR, sy_int, sy_region, sy_seq, bS]
      refine ⟨by omega, i + 1, hlt, by omega, ?_⟩
      refine MW1 _ (.nil _) fun t => ?_
      unfold Aa
      by_cases h0 : t = 0
      · subst h0; simp [sy_put]; exact .same _ (by simp only [Clean]; exact ⟨Cleans_kcells ks, trivial⟩)
      by_cases h3 : t = 3
      · subst h3; simp [sy_put]
        rw [mcells_snoc hlt]
        exact .sl _ _ _ _ (by have := Cleans_mcells (k := 0) (s := 0) (ks.take (i + 1)); rw [mcells_snoc hlt] at this; exact this) ⟨rfl, rfl⟩
      by_cases h4 : t = 4
      · subst h4; simp [sy_put]; rw [IntWalk.i64_in _ (by omega)]; exact .same _ (by simp [Clean])
      simp only [h0, h3, h4, if_false]
      exact .any _
    · have hie : i = ks.length := by omega
      subst hie
      simp [sy_cons, sy_nil, sy_q, QOp.sem, sy_tmp, sy_put, Aa, lenR, binR, intBinR, sy_cond, cnd, sy_exit, sy_blockE, sy_seq, sy_region, sy_call]
      have hc := count_ok (P := P) hm hF5 hcal5 (μ := M1 gl) rfl (by simp [M1]) (by simp [M1]) ks hn (.own 0 29)
      refine ⟨hc.1, hc.2.mono ?_⟩
      rintro o μ' ⟨rfl, rfl⟩
      simp [afterCall, sy_cons, sy_nil, sy_q, QOp.sem, sy_tmp, sy_put, sy_int, M1, sy_seq, sy_region]
      rw [sy_block]
      refine sy_loop (fun i => i ≤ ks.length) (fun i => (Ab ks i, M2 gl ks)) (fun i => ks.length - i) 0 (Nat.zero_le _) ?_ ?_
      · refine MW1 _ (.cons _ _ _ _ (.same _ (Clean_nums (nums_ctab _))) (.nil _)) fun t => ?_
        unfold Ab
        by_cases h3 : t = 3
        · subst h3; simp [sy_put, Aa]; exact .sl _ _ _ _ (Cleans_mcells _) ⟨rfl, rfl⟩
        by_cases h5 : t = 5
        · subst h5; simp [sy_put]; exact .same _ (by simp [Clean])
        by_cases h6 : t = 6
        · subst h6; simp [sy_put, ctab]; exact .same _ (by simp [Clean])
        by_cases h7 : t = 7
        · subst h7; simp [sy_put]; exact .same _ (by simp [Clean])
        simp only [h3, h5, h6, h7, if_false]
        exact .any _
      · intro i hi
        rw [sy_seq, sy_seq, sy_region]
        by_cases hlt : i < ks.length
        · simp [sy_cons, sy_nil, sy_q, QOp.sem, sy_tmp, sy_put, Ab, lenR, binR, intBinR, sy_cond, cnd, sy_skip, hlt]
          generalize blockE 2 _ _ = E2
          rw [sy_seq, sy_block, sy_seq, sy_region]
          simp [sy_cons, sy_nil, sy_q, QOp.sem, sy_int, sy_bool, sy_seq, sy_region]
          rw [sy_block]
          refine sy_loop (fun k => k ≤ ks.length) (fun k => (Ac ks i ks[i] k, M2 gl ks)) (fun k => ks.length - k) 0 (Nat.zero_le _) ?_ ?_
          · refine MW1 _ (.cons _ _ _ _ (.same _ (Clean_nums (nums_ctab _))) (.nil _)) fun t => ?_
            unfold Ac
            by_cases h3 : t = 3
            · subst h3; simp [sy_put, Ab]; exact .sl _ _ _ _ (Cleans_mcells _) ⟨rfl, rfl⟩
            by_cases h5 : t = 5
            · subst h5; simp [sy_put, Ab]; exact .same _ (by simp [Clean])
            by_cases h6 : t = 6
            · subst h6; simp [sy_put, Ab]; exact .same _ (by simp [Clean])
            by_cases h7 : t = 7
            · subst h7; simp [sy_put, Ab]; exact .same _ (by simp [Clean])
            by_cases h8 : t = 8
            · subst h8; simp [sy_put, Ab, wantN]; exact .same _ (by simp [Clean])
            by_cases h9 : t = 9
            · subst h9; simp [sy_put, Ab, fl]; exact .same _ (by simp [Clean])
            by_cases h10 : t = 10
            · subst h10; simp [sy_put, Ab]; exact .same _ (by simp [Clean])
            simp only [h3, h5, h6, h7, h8, h9, h10, if_false]
            exact .any _
          · intro k hk'
            rw [sy_seq, sy_seq, sy_region]
            by_cases hkl : k < ks.length
            · simp [sy_cons, sy_nil, sy_q, QOp.sem, sy_tmp, sy_put, Ac, lenR, binR, intBinR, sy_cond, cnd, sy_skip, hkl]
              generalize blockE 4 _ _ = E4
              rw [sy_seq, sy_block, sy_seq, sy_draw]
              simp [sy_dcons, sy_dnil, sy_dq, sy_rsA, QOp.sem, sy_tmp, sy_put, Ac]
              have hdk := mcells_at hkl
              have hdi := mcells_at hlt
              simp [indexAddrR, loadR, derefS, shiftR, vcellsR, hdk, hdi, hkl, hlt, mcell, AVal.one, Value.oneCell', binR, intBinR, isConstOp]
              rw [sy_cond]
              have hwk : wantN ks ks[i] (k + 1) = if ks[k] = ks[i] then wantN ks ks[i] k + 1 else wantN ks ks[i] k := by
                simp only [wantN, List.getElem?_eq_getElem hkl, Option.some.injEq]
              have hfk : fl ks ks[i] i (k + 1) = if ks[k] = ks[i] then fl ks ks[i] i k && decide (i ≤ k) else fl ks ks[i] i k := by
                simp only [fl, List.getElem?_eq_getElem hkl, Option.some.injEq]
              have hwl := wantN_le ks ks[i] k
              by_cases heq : ks[k] = ks[i]
              · simp only [heq, if_true] at hwk hfk
                have hw1 : IntKind.i64.wrap ((wantN ks ks[i] k : Int) + 1) = ((wantN ks ks[i] k + 1 : Nat) : Int) := by rw [IntWalk.i64_in _ (by omega)]; rfl
                have hk1 : IntKind.i64.wrap ((k : Int) + 1) = ((k + 1 : Nat) : Int) := by rw [IntWalk.i64_in _ (by omega)]; rfl
                cases hfl : fl ks ks[i] i k <;> simp [cnd, sy_tmp, sy_put, heq, sy_seq, sy_region, sy_cons, sy_nil, sy_q, sy_gq, QOp.sem, sy_int, sy_bool, binR, intBinR, Ac, hfl, gdR, rg, rsG, stripA, pickR, guardV]
                · exact ⟨k + 1, hkl, by omega, wkAc (by simp [sy_put, Ac]) (by simp [sy_put, Ac]) (by simp [sy_put, Ac]) (by simp [sy_put, Ac]) (by simp [sy_put, Ac, hw1, hwk]) (by simp [sy_put, Ac, hfk, hfl]) (by simp [sy_put, Ac, hk1])⟩
                · exact ⟨k + 1, hkl, by omega, wkAc (by simp [sy_put, Ac]) (by simp [sy_put, Ac]) (by simp [sy_put, Ac]) (by simp [sy_put, Ac]) (by simp [sy_put, Ac, hw1, hwk]) (by simp [sy_put, Ac, hfk, hfl]) (by simp [sy_put, Ac, hk1])⟩
              · have hk1 : IntKind.i64.wrap ((k : Int) + 1) = ((k + 1 : Nat) : Int) := by rw [IntWalk.i64_in _ (by omega)]; rfl
                simp only [heq, if_false] at hwk hfk
                simp [cnd, sy_tmp, sy_put, heq, sy_skip, sy_region, sy_cons, sy_nil, sy_q, QOp.sem, sy_int, binR, intBinR, Ac]
                exact ⟨k + 1, hkl, by omega, wkAc (by simp [sy_put, Ac]) (by simp [sy_put, Ac]) (by simp [sy_put, Ac]) (by simp [sy_put, Ac]) (by simp [sy_put, Ac, hwk]) (by simp [sy_put, Ac, hfk]) (by simp [sy_put, Ac, hk1])⟩
            · have hie : k = ks.length := by omega
              subst hie
              simp [sy_cons, sy_nil, sy_q, QOp.sem, sy_tmp, sy_put, Ac, lenR, binR, intBinR, sy_cond, cnd, sy_exit, sy_blockE, sy_seq, sy_region]
              have hdi := mcells_at hlt
              have hcnt : lookR (.lit (.int .i64 0)) false (mfind (.int .i64 ks[i]) (ctab ks)) = .lit (.int .i64 (wantN ks ks[i] ks.length : Nat)) := by
                rw [← cnt_take hn ks[i] ks.length (Nat.le_refl _), List.take_length]
                unfold cnt
                rcases mfind_nums (nums_ctab ks) (.int .i64 ks[i]) with h | ⟨n, h⟩ <;> rw [h] <;> rfl
              simp [indexAddrR, loadR, derefS, shiftR, vcellsR, hdi, hlt, mcell, AVal.one, Value.oneCell', lookupR, mgetR, keyFit, hcnt, M2, binR, intBinR, isConstOp]
              have hi1 : IntKind.i64.wrap ((i : Int) + 1) = ((i + 1 : Nat) : Int) := by rw [IntWalk.i64_in _ (by omega)]; rfl
              have hll := len_le (ks := ks) i hi
              have hls := len_succ hlt
              have hfe := fl_eq ks ks[i] i ks.length
              rw [Nat.min_eq_right hi] at hfe
              rw [sy_skip, sy_seq, sy_region]
              by_cases hw0 : wantN ks ks[i] i = 0
              · simp only [hw0, decide_true, if_true] at hfe hls
                have hl1 : IntKind.i64.wrap (((ctab (ks.take i)).length : Int) + 1) = (((ctab (ks.take i)).length + 1 : Nat) : Int) := by rw [IntWalk.i64_in _ (by omega)]; rfl
                simp [sy_cons, sy_nil, sy_q, QOp.sem, sy_tmp, sy_put, sy_int, Ac, hfe, sy_cond, cnd, sy_region, binR, intBinR]
                exact ⟨i + 1, hlt, by omega, wkAb (by simp [sy_put, Ac]) (by simp [sy_put, Ac]) (by simp [sy_put, Ac, hl1, hls]) (by simp [sy_put, Ac, hi1])⟩
              · simp only [hw0, decide_false, if_false] at hfe hls
                simp [sy_cons, sy_nil, sy_q, QOp.sem, sy_tmp, sy_put, sy_int, Ac, hfe, sy_cond, cnd, sy_region, binR, intBinR, sy_skip]
                exact ⟨i + 1, hlt, by omega, wkAb (by simp [sy_put, Ac]) (by simp [sy_put, Ac]) (by simp [sy_put, Ac, hls]) (by simp [sy_put, Ac, hi1])⟩
        · have hie : i = ks.length := by omega
          subst hie
          simp [sy_cons, sy_nil, sy_q, QOp.sem, sy_tmp, sy_put, Ab, lenR, binR, intBinR, sy_cond, cnd, sy_exit, sy_blockE, sy_seq, sy_region]
          simp only [M2, List.getElem?_cons_zero]
          refine ⟨trivial, trivial, ?_⟩
          rw [sy_gcall]
          simp only [sy_put, sy_tmp, gdR, rg]
          refine ⟨trivial, .inl ⟨.lit (.bool true), by simp [Clean], fun _ => hk _ rfl, ?_⟩⟩
          simp [sy_cons, sy_nil, sy_q, QOp.sem, sy_tmp, sy_put, sy_bool, pickR, guardV, sy_ret, retE, retK, leaveA, retVs, oneOr]
end Go.Proofs.YtkgbfadglaepfaaGreatDoor.AL.K
