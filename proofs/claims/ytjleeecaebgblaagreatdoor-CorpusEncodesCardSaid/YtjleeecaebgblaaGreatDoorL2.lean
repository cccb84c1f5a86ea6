/- Decoding: the walk. -/
import Derived.Test.YtjleeecaebgblaaGreatDoorL1
set_option linter.all false
namespace Go.Proofs.YtjleeecaebgblaaGreatDoor.AL.K
open Go Go.Proofs.YtjleeecaebgblaaGreatDoor.AL Go.RowKit
variable {P : Program} {row : Option (Nat × List UInt8)}
theorem h16 : dfns.get 16 = some d16 := by rfl
theorem dfr_none (t : Tells P) {μ : AMem} {a b : Nat} {Q : AMem → Prop} (hq : Q μ) : ADCalls P 16 [.ptr a 0, .ptr b 0] none μ Q := by
  obtain ⟨_, mu, hF⟩ := t.d 16 (by decide) _ h16
  refine ADCalls.of t.m hF (by simp [d16]) fun hw hcl => ?_
  obtain ⟨blks, lv, nx, gl, df⟩ := μ
  simp only [d16, AMem.bare]
  simp [sy_seq, sy_region, sy_cons, sy_nil, sy_q, sy_n, sy_e, sy_gq, sy_put, sy_put0, sy_tmp, sy_int, sy_bool, sy_nilsl, sy_cond, sy_skip, sy_exit, sy_ret, sy_blockE, sy_blockR, QOp.sem, NOp.sem, EOp.sem, q, qg, qd, T, I, mv, sy_atL, sy_atL0, A0, cnd, rg, rsG, gdR, stripA, guardV, pickR, len_sl, len_ms, len_str, len_arr, unR, binR, ib_add, ib_sub, ib_mul, ib_quo, ib_rem, ib_eql, ib_neq, ib_lss, ib_leq, ib_gtr, ib_geq, is_shl, is_shr, bits64, sy_nili, sy_str, sy_nilp, sy_nilf, sy_nilmap, sy_slice, sy_draw, sy_dnil, sy_dcons, sy_dq, sy_dn, sy_de, sy_dgq, sy_rsA, sy_rechk0, sy_rechk, sy_call, sy_dcall, sy_panic, panicR, sy_hideE, sy_blockP, sy_after, sy_afterp, sy_afterD, sy_afterDp, nilcR, convR, bndV_nat, bndV_none, recV, eqlR, isConstOp]
  exact ⟨rfl, hq⟩
theorem dfr_some (t : Tells P) {μ : AMem} {a b : Nat} {l e : AVal} {c : Int} (hab : a ≠ b) (ha : μ.blks[a]? = some (.cells 24 [l])) (hb : μ.blks[b]? = some (.cells 25 [e])) {Q : AMem → Prop}
    (hq : Q { μ with blks := (μ.blks.set a (.cells 24 [.sl 0 [] .full])).set b (.cells 25 [.lit (.int .i64 c)]) }) : ADCalls P 16 [.ptr a 0, .ptr b 0] (some (.ifc 25 (.lit (.int .i64 c)))) μ Q := by
  obtain ⟨_, mu, hF⟩ := t.d 16 (by decide) _ h16
  refine ADCalls.of t.m hF (by simp [d16]) fun hw hcl => ?_
  obtain ⟨blks, lv, nx, gl, df⟩ := μ
  simp only at ha hb
  have hb' : ∀ x, (blks.set a x)[b]? = some (.cells 25 [e]) := fun x => by rw [List.getElem?_set_ne hab]; exact hb
  simp only [d16, AMem.bare]
  simp [sy_seq, sy_region, sy_cons, sy_nil, sy_q, sy_n, sy_e, sy_gq, sy_put, sy_put0, sy_tmp, sy_int, sy_bool, sy_nilsl, sy_cond, sy_skip, sy_exit, sy_ret, sy_blockE, sy_blockR, QOp.sem, NOp.sem, EOp.sem, q, qg, qd, T, I, mv, sy_atL, sy_atL0, A0, cnd, rg, rsG, gdR, stripA, guardV, pickR, len_sl, len_ms, len_str, len_arr, unR, binR, ib_add, ib_sub, ib_mul, ib_quo, ib_rem, ib_eql, ib_neq, ib_lss, ib_leq, ib_gtr, ib_geq, is_shl, is_shr, bits64, sy_nili, sy_str, sy_nilp, sy_nilf, sy_nilmap, sy_slice, sy_draw, sy_dnil, sy_dcons, sy_dq, sy_dn, sy_de, sy_dgq, sy_rsA, sy_rechk0, sy_rechk, sy_call, sy_dcall, sy_panic, panicR, sy_hideE, sy_blockP, sy_after, sy_afterp, sy_afterD, sy_afterDp, nilcR, convR, bndV_nat, bndV_none, buildR, bsliceR, partsA, aFill, Places.get, vc_agg, vr_agg, vc_sl, vc_ptr, vc_ep, vc_mp, vc_ms, vc_fn, vc_ifc, vc_int, vc_bool, vc_str, vc_nili, vc_nilp, vc_nilm, vc_nilf, vr_sl, vr_ptr, vr_ep, vr_mp, vr_ms, vr_fn, vr_ifc, vr_int, vr_bool, vr_str, vr_nili, vr_nilp, vr_nilm, vr_nilf, on_sl, on_ptr, on_ep, on_mp, on_ms, on_fn, on_ifc, on_int, on_bool, on_str, on_nili, on_nilp, on_nilm, on_nilf, setAt, aSeq, storeR, recV, eqlR, isConstOp, assertR, ha, hb']
  exact ⟨rfl, hq⟩
/-- So many tests, one behind the other. -/
def runT : Nat → List UInt8 → Except Int (List Te × List UInt8)
  | 0, r => .ok ([], r)
  | i + 1, r => match runT i r with
    | .error c => .error c
    | .ok (ts, r') => match decT r' with
      | .error c => .error c
      | .ok (x, r'') => .ok (ts ++ [x], r'')
theorem runT_len : ∀ {i : Nat} {r : List UInt8} {ts : List Te} {r' : List UInt8}, runT i r = .ok (ts, r') → ts.length = i
  | 0, r, ts, r', h => by simp only [runT, Except.ok.injEq, Prod.mk.injEq] at h; simp [← h.1]
  | i + 1, r, ts, r', h => by
    simp only [runT] at h
    split at h
    · cases h
    · rename_i ts1 r1 h1
      split at h <;> cases h
      simp [runT_len h1]
theorem runT_err {i : Nat} {r : List UInt8} {c : Int} (h : runT i r = .error c) : ∀ j, i ≤ j → runT j r = .error c
  | 0, hj => by
    have : i = 0 := by omega
    subst this; exact h
  | j + 1, hj => by
    rcases Nat.lt_or_ge j i with h1 | h1
    · have : i = j + 1 := by omega
      subst this; exact h
    · simp only [runT, runT_err h j h1]
theorem decT_rest {bs r : List UInt8} {x : Te} (h : decT bs = .ok (x, r)) : r.length ≤ bs.length := by
  unfold decT at h
  split at h
  · cases h
  split at h
  · cases h
  split at h
  · cases h
  cases h
  simp
theorem runT_rest : ∀ {i : Nat} {r : List UInt8} {ts : List Te} {r' : List UInt8}, runT i r = .ok (ts, r') → r'.length ≤ r.length
  | 0, r, ts, r', h => by simp only [runT, Except.ok.injEq, Prod.mk.injEq] at h; simp [← h.2]
  | i + 1, r, ts, r', h => by
    simp only [runT] at h
    split at h
    · cases h
    · rename_i ts1 r1 h1
      split at h <;> cases h
      rename_i x h2
      have := runT_rest h1
      have := decT_rest h2
      omega
def decAll (bs : List UInt8) : Except Int (List Te) :=
  if bs.length < 6 then .error 4
  else if bs.take 4 ≠ [80, 66, 67, 49] then .error 6
  else match runT (gN ((bs.drop 4).take 2)) (bs.drop 6) with
    | .error c => .error c
    | .ok (ts, r) => if 0 < r.length then .error 5 else .ok ts
def tcells (ts : List Te) : List AVal := ts.flatMap fun x => x.cells .no
def decV : Except Int (List Te) → AVal
  | .ok ts => .tup [.sl ts.length (tcells ts) .no, .lit (.int .i64 0)]
  | .error c => .tup [.sl 0 [] .no, .lit (.int .i64 c)]
theorem Te.cells_len (x : Te) (tk : Tk) : (x.cells tk).length = 4 := rfl
theorem tcells_len : ∀ (ts : List Te), (tcells ts).length = ts.length * 4
  | [] => rfl
  | x :: ts => by
    have := tcells_len ts
    simp only [tcells, List.flatMap_cons, List.length_append, List.length_cons, Te.cells_len] at this ⊢
    omega
theorem tcells_snoc (ts : List Te) (x : Te) : tcells (ts ++ [x]) = tcells ts ++ x.cells .no := by simp [tcells]
theorem Cleans_append {k s : Nat} {as cs : List AVal} (h : Cleans k s as) (h' : Cleans k s cs) : Cleans k s (as ++ cs) := by
  rw [Cleans_iff] at h h' ⊢
  intro c hc
  rcases List.mem_append.1 hc with hc | hc
  · exact h c hc
  · exact h' c hc
theorem Te.clean {k s : Nat} (x : Te) : Cleans k s (x.cells .no) := by simp [Te.cells, Cleans, Clean, Cleans_aBytes]
theorem Cleans_tcells {k s : Nat} : ∀ (ts : List Te), Cleans k s (tcells ts)
  | [] => by simp [tcells, Cleans]
  | x :: ts => by
    have := Cleans_tcells (k := k) (s := s) ts
    simp only [tcells, List.flatMap_cons] at this ⊢
    exact Cleans_append x.clean this
theorem Te.all_one (x : Te) (tk : Tk) : (x.cells tk).all AVal.one = true := rfl
theorem g6 : fns.get 6 = some c6 := by rfl
theorem bS_eq (l : List UInt8) : (ByteArray.mk ⟨l⟩ = ⟨⟨[80, 66, 67, 49]⟩⟩) ↔ l = [80, 66, 67, 49] := by
  constructor
  · intro h; injection h with h; injection h
  · rintro rfl; rfl
theorem decode_ok (t : Tells P) (h32 : callable P 32 = true ∧ ∃ mu, mkFn P mu 32 = some c32s) {μ : AMem} {v : AVal} {bs : List UInt8} (hB : IsB row v bs) (hR : HasRow μ row) (hl : bs.length ≤ 1000000) :
    calls P 6 [v] μ (fun o μ' => o = .ret (decV (decAll bs)) ∧ μ' = μ) := by
  obtain ⟨blks, lv, nx, gl, df⟩ := μ
  refine calls.go t.m (t.f 6 (by decide) _ g6) (by simp [c6]) fun R hRR hf hcl => ?_
  have hcv : Clean blks.length nx v := by simp only [Cleans] at hcl; exact hcl.1
  have hlv : ∀ r ∈ lv, r < nx ∧ r ∈ lv := fun r hr => ⟨hf.ll r hr, hr⟩
  have hrow : ∀ rid l, row = some (rid, l) → rid < blks.length := fun rid l e => HasRow.lt (μ := ⟨blks, lv, nx, gl, df⟩) hR rid l e
  have hRs : ∀ (l : List ABlk) lv nx df, HasRow ⟨blks ++ l, lv, nx, gl, df⟩ row := fun l lv nx df => HasRow.of hR fun _ _ h => rowCs_append h
  obtain ⟨hc16, _⟩ := t.d 16 (by decide) _ h16
  have bad : ∀ {A : ATmps} {l e x : AVal} {lv' : List Nat} {nx' : Nat} {c : Int}, A 2 = .ptr blks.length 0 → A 3 = .ptr (blks.length + 1) 0 → (∀ r ∈ lv, r ∈ lv') → decAll bs = .error c →
      retE P ⟨blks.length, nx, none⟩ [.cell none 2, .cell none 3] R (.panic (.ifc 25 (.lit (.int .i64 c)))) A ⟨blks ++ [.cells 24 [l], .cells 25 [e], .cells 50 [x]], lv', nx', gl, [.fn 16 [.ptr blks.length 0, .ptr (blks.length + 1) 0]]⟩ := by
    intro A l e x lv' nx' c hA2 hA3 hlv' hd
    have hm : ∀ (x1 x2 : ABlk), ((blks ++ [ABlk.cells 24 [l], ABlk.cells 25 [e], ABlk.cells 50 [x]]).set blks.length x1).set (blks.length + 1) x2 = blks ++ [x1, x2, .cells 50 [x]] := fun x1 x2 => by simp [List.set_append]
    refine ⟨hc16, dfr_some t (by omega) (l := l) (e := e) (by simp [AMem.bare]) (by simp [AMem.bare]) ?_⟩
    simp only [AMem.bare, hm]
    show retK P ⟨blks.length, nx, none⟩ [.cell none 2, .cell none 3] R A ⟨blks ++ [.cells 24 [.sl 0 [] .full], .cells 25 [.lit (.int .i64 c)], .cells 50 [x]], lv', nx', gl, []⟩
    refine retD (P := P) (k0 := blks.length) (s0 := nx) (l := blks) (lv0 := lv) (res := [.cell none 2, .cell none 3]) (v := decV (decAll bs)) ?_ (Nat.le_refl _) (fun r hr => ⟨hf.ll r hr, hlv' r hr⟩) hf.nd hf.wf.blk ?_ (hRR _ _ _ _ _ _ ⟨rfl, rfl⟩)
    · simp [retVs, hA2, hA3, sy_seq, sy_region, sy_cons, sy_nil, sy_q, sy_n, sy_e, sy_gq, sy_put, sy_put0, sy_tmp, sy_int, sy_bool, sy_nilsl, sy_cond, sy_skip, sy_exit, sy_ret, sy_blockE, sy_blockR, QOp.sem, NOp.sem, EOp.sem, q, qg, qd, T, I, mv, sy_atL, sy_atL0, A0, cnd, rg, rsG, gdR, stripA, guardV, pickR, len_sl, len_ms, len_str, len_arr, unR, binR, ib_add, ib_sub, ib_mul, ib_quo, ib_rem, ib_eql, ib_neq, ib_lss, ib_leq, ib_gtr, ib_geq, is_shl, is_shr, bits64, sh_ptr, sh_ep, ld_ptr, ld_ep, lds_ptr, lds_ep, ptrS]
    · simp [retVs, oneOr, hA2, hA3, sy_seq, sy_region, sy_cons, sy_nil, sy_q, sy_n, sy_e, sy_gq, sy_put, sy_put0, sy_tmp, sy_int, sy_bool, sy_nilsl, sy_cond, sy_skip, sy_exit, sy_ret, sy_blockE, sy_blockR, QOp.sem, NOp.sem, EOp.sem, q, qg, qd, T, I, mv, sy_atL, sy_atL0, A0, cnd, rg, rsG, gdR, stripA, guardV, pickR, len_sl, len_ms, len_str, len_arr, unR, binR, ib_add, ib_sub, ib_mul, ib_quo, ib_rem, ib_eql, ib_neq, ib_lss, ib_leq, ib_gtr, ib_geq, is_shl, is_shr, bits64, sh_ptr, sh_ep, ld_ptr, ld_ep, lds_ptr, lds_ep, ptrS, hd, decV]
      exact .tup _ _ (.cons _ _ _ _ (.sl _ _ _ _ trivial trivial) (.cons _ _ _ _ (.same _ trivial) .nil))
  have hset : ∀ (a b : ABlk) (x x' : AVal), (blks ++ [a, b, ABlk.cells 50 [x]]).set (blks.length + 2) (.cells 50 [x']) = blks ++ [a, b, .cells 50 [x']] := fun a b x x' => by simp [List.set_append]
  have hget : ∀ (a b : ABlk) (x : AVal), (blks ++ [a, b, ABlk.cells 50 [x]])[blks.length + 2]? = some (.cells 50 [x]) := fun a b x => by simp
  simp only [c6]
  simp [sy_seq, sy_region, sy_cons, sy_nil, sy_q, sy_n, sy_e, sy_gq, sy_put, sy_put0, sy_tmp, sy_int, sy_bool, sy_nilsl, sy_cond, sy_skip, sy_exit, sy_ret, sy_blockE, sy_blockR, QOp.sem, NOp.sem, EOp.sem, q, qg, qd, T, I, mv, sy_atL, sy_atL0, A0, cnd, rg, rsG, gdR, stripA, guardV, pickR, len_sl, len_ms, len_str, len_arr, unR, binR, ib_add, ib_sub, ib_mul, ib_quo, ib_rem, ib_eql, ib_neq, ib_lss, ib_leq, ib_gtr, ib_geq, is_shl, is_shr, bits64, sy_nili, sy_str, sy_nilp, sy_nilf, sy_nilmap, sy_slice, sy_draw, sy_dnil, sy_dcons, sy_dq, sy_dn, sy_de, sy_dgq, sy_rsA, sy_rechk0, sy_rechk, sy_call, sy_dcall, sy_panic, panicR, sy_hideE, sy_blockP, sy_after, sy_afterp, sy_afterD, sy_afterDp, nilcR, convR, bndV_nat, bndV_none, sh_ptr, sh_ep, ld_ptr, ld_ep, lds_ptr, lds_ep, ptrS, buildR, bsliceR, partsA, aFill, Places.get, vc_agg, vr_agg, vc_sl, vc_ptr, vc_ep, vc_mp, vc_ms, vc_fn, vc_ifc, vc_int, vc_bool, vc_str, vc_nili, vc_nilp, vc_nilm, vc_nilf, vr_sl, vr_ptr, vr_ep, vr_mp, vr_ms, vr_fn, vr_ifc, vr_int, vr_bool, vr_str, vr_nili, vr_nilp, vr_nilm, vr_nilf, on_sl, on_ptr, on_ep, on_mp, on_ms, on_fn, on_ifc, on_int, on_bool, on_str, on_nili, on_nilp, on_nilm, on_nilf, setAt, aSeq, storeR, sy_deferR, aDefer, hc16, hB.len, hB.cell]
  refine ⟨fun h6 => ?_, fun h6 => ?_⟩
  · refine bad (by simp [sy_seq, sy_region, sy_cons, sy_nil, sy_q, sy_n, sy_e, sy_gq, sy_put, sy_put0, sy_tmp, sy_int, sy_bool, sy_nilsl, sy_cond, sy_skip, sy_exit, sy_ret, sy_blockE, sy_blockR, QOp.sem, NOp.sem, EOp.sem, q, qg, qd, T, I, mv, sy_atL, sy_atL0, A0, cnd, rg, rsG, gdR, stripA, guardV, pickR, len_sl, len_ms, len_str, len_arr, unR, binR, ib_add, ib_sub, ib_mul, ib_quo, ib_rem, ib_eql, ib_neq, ib_lss, ib_leq, ib_gtr, ib_geq, is_shl, is_shr, bits64]) (by simp [sy_seq, sy_region, sy_cons, sy_nil, sy_q, sy_n, sy_e, sy_gq, sy_put, sy_put0, sy_tmp, sy_int, sy_bool, sy_nilsl, sy_cond, sy_skip, sy_exit, sy_ret, sy_blockE, sy_blockR, QOp.sem, NOp.sem, EOp.sem, q, qg, qd, T, I, mv, sy_atL, sy_atL0, A0, cnd, rg, rsG, gdR, stripA, guardV, pickR, len_sl, len_ms, len_str, len_arr, unR, binR, ib_add, ib_sub, ib_mul, ib_quo, ib_rem, ib_eql, ib_neq, ib_lss, ib_leq, ib_gtr, ib_geq, is_shl, is_shr, bits64]) (fun r hr => hr) ?_
    have : bs.length < 6 := by omega
    simp [decAll, this]
  have h6' : ¬ bs.length < 6 := by omega
  refine (take_ok t (hget _ _ _) hB (hRs _ _ _ _) (n := 4) (by omega)).step ?_
  rintro o μ' ⟨v1, v2, h1, h2, rfl, rfl⟩ hf1 - -
  simp [sy_seq, sy_region, sy_cons, sy_nil, sy_q, sy_n, sy_e, sy_gq, sy_put, sy_put0, sy_tmp, sy_int, sy_bool, sy_nilsl, sy_cond, sy_skip, sy_exit, sy_ret, sy_blockE, sy_blockR, QOp.sem, NOp.sem, EOp.sem, q, qg, qd, T, I, mv, sy_atL, sy_atL0, A0, cnd, rg, rsG, gdR, stripA, guardV, pickR, len_sl, len_ms, len_str, len_arr, unR, binR, ib_add, ib_sub, ib_mul, ib_quo, ib_rem, ib_eql, ib_neq, ib_lss, ib_leq, ib_gtr, ib_geq, is_shl, is_shr, bits64, sy_nili, sy_str, sy_nilp, sy_nilf, sy_nilmap, sy_slice, sy_draw, sy_dnil, sy_dcons, sy_dq, sy_dn, sy_de, sy_dgq, sy_rsA, sy_rechk0, sy_rechk, sy_call, sy_dcall, sy_panic, panicR, sy_hideE, sy_blockP, sy_after, sy_afterp, sy_afterD, sy_afterDp, nilcR, convR, bndV_nat, bndV_none, sh_ptr, sh_ep, ld_ptr, ld_ep, lds_ptr, lds_ep, ptrS, buildR, bsliceR, partsA, aFill, Places.get, vc_agg, vr_agg, vc_sl, vc_ptr, vc_ep, vc_mp, vc_ms, vc_fn, vc_ifc, vc_int, vc_bool, vc_str, vc_nili, vc_nilp, vc_nilm, vc_nilf, vr_sl, vr_ptr, vr_ep, vr_mp, vr_ms, vr_fn, vr_ifc, vr_int, vr_bool, vr_str, vr_nili, vr_nilp, vr_nilm, vr_nilf, on_sl, on_ptr, on_ep, on_mp, on_ms, on_fn, on_ifc, on_int, on_bool, on_str, on_nili, on_nilp, on_nilm, on_nilf, setAt, aSeq, storeR, hset, h1.bstr (hRs _ _ _ _), bS, strBinR]
  refine ⟨fun hm => ?_, fun hm => ?_⟩
  · refine bad (by simp [sy_seq, sy_region, sy_cons, sy_nil, sy_q, sy_n, sy_e, sy_gq, sy_put, sy_put0, sy_tmp, sy_int, sy_bool, sy_nilsl, sy_cond, sy_skip, sy_exit, sy_ret, sy_blockE, sy_blockR, QOp.sem, NOp.sem, EOp.sem, q, qg, qd, T, I, mv, sy_atL, sy_atL0, A0, cnd, rg, rsG, gdR, stripA, guardV, pickR, len_sl, len_ms, len_str, len_arr, unR, binR, ib_add, ib_sub, ib_mul, ib_quo, ib_rem, ib_eql, ib_neq, ib_lss, ib_leq, ib_gtr, ib_geq, is_shl, is_shr, bits64]) (by simp [sy_seq, sy_region, sy_cons, sy_nil, sy_q, sy_n, sy_e, sy_gq, sy_put, sy_put0, sy_tmp, sy_int, sy_bool, sy_nilsl, sy_cond, sy_skip, sy_exit, sy_ret, sy_blockE, sy_blockR, QOp.sem, NOp.sem, EOp.sem, q, qg, qd, T, I, mv, sy_atL, sy_atL0, A0, cnd, rg, rsG, gdR, stripA, guardV, pickR, len_sl, len_ms, len_str, len_arr, unR, binR, ib_add, ib_sub, ib_mul, ib_quo, ib_rem, ib_eql, ib_neq, ib_lss, ib_leq, ib_gtr, ib_geq, is_shl, is_shr, bits64]) (fun r hr => hr) ?_
    unfold decAll
    rw [if_neg h6', if_pos hm]
  refine (number_ok t (hget _ _ _) h2 (hRs _ _ _ _) (n := 2) (by simp; omega) (by omega)).step ?_
  rintro o μ' ⟨v3, h3, rfl, rfl⟩ hf2 - -
  simp only [List.drop_drop] at h3
  have clv : ∀ {w : AVal} {cs : List UInt8} {k' : Nat}, IsB row w cs → Clean k' nx w → Clean blks.length nx w := fun h hc => h.clean hrow hc
  have hc3 : Clean blks.length nx v3 := by
    have := hf2.wf.blk _ (List.mem_of_getElem? (i := blks.length + 2) (a := .cells 50 [v3]) (by simp only [hset]; exact hget _ _ _))
    simp only [CleanB, Cleans] at this
    exact clv h3 this.1
  generalize hn : gN ((bs.drop 4).take 2) = n
  have hn16 : n < 65536 := by
    have := gN_lt (bs.drop 4) 2
    omega
  simp [sy_seq, sy_region, sy_cons, sy_nil, sy_q, sy_n, sy_e, sy_gq, sy_put, sy_put0, sy_tmp, sy_int, sy_bool, sy_nilsl, sy_cond, sy_skip, sy_exit, sy_ret, sy_blockE, sy_blockR, QOp.sem, NOp.sem, EOp.sem, q, qg, qd, T, I, mv, sy_atL, sy_atL0, A0, cnd, rg, rsG, gdR, stripA, guardV, pickR, len_sl, len_ms, len_str, len_arr, unR, binR, ib_add, ib_sub, ib_mul, ib_quo, ib_rem, ib_eql, ib_neq, ib_lss, ib_leq, ib_gtr, ib_geq, is_shl, is_shr, bits64, sy_nili, sy_str, sy_nilp, sy_nilf, sy_nilmap, sy_slice, sy_draw, sy_dnil, sy_dcons, sy_dq, sy_dn, sy_de, sy_dgq, sy_rsA, sy_rechk0, sy_rechk, sy_call, sy_dcall, sy_panic, panicR, sy_hideE, sy_blockP, sy_after, sy_afterp, sy_afterD, sy_afterDp, nilcR, convR, bndV_nat, bndV_none, sh_ptr, sh_ep, ld_ptr, ld_ep, lds_ptr, lds_ep, ptrS, buildR, bsliceR, partsA, aFill, Places.get, vc_agg, vr_agg, vc_sl, vc_ptr, vc_ep, vc_mp, vc_ms, vc_fn, vc_ifc, vc_int, vc_bool, vc_str, vc_nili, vc_nilp, vc_nilm, vc_nilf, vr_sl, vr_ptr, vr_ep, vr_mp, vr_ms, vr_fn, vr_ifc, vr_int, vr_bool, vr_str, vr_nili, vr_nilp, vr_nilm, vr_nilf, on_sl, on_ptr, on_ep, on_mp, on_ms, on_fn, on_ifc, on_int, on_bool, on_str, on_nili, on_nilp, on_nilm, on_nilf, setAt, aSeq, storeR, hset]
  rw [sy_block]
  refine sy_loopL (α := Nat × List Te × List UInt8 × AVal) (fun x => x.1 ≤ n ∧ runT x.1 (bs.drop 6) = .ok (x.2.1, x.2.2.1) ∧ IsB row x.2.2.2 x.2.2.1 ∧ Clean blks.length nx x.2.2.2)
    (fun x => [(2, .ptr blks.length 0), (3, .ptr (blks.length + 1) 0), (4, .ptr (blks.length + 2) 0), (24, .lit (.int .i64 (n : Nat))), (25, .lit (.int .i64 (x.1 : Nat)))])
    (fun x => ⟨blks ++ [.cells 24 [.sl x.2.1.length (tcells x.2.1) (.own nx 43)], .cells 25 [.lit (.int .i64 0)], .cells 50 [x.2.2.2]], lv ++ [nx], nx + 1, gl, [.fn 16 [.ptr blks.length 0, .ptr (blks.length + 1) 0]]⟩) (fun x => n - x.1) (0, [], bs.drop 6, v3) ⟨Nat.zero_le _, rfl, h3, hc3⟩ ?_ ?_
  · have hB0 : ∀ x ∈ blks, CleanB (blks.length + 3) nx x := fun x hx => (hf.wf.blk x hx).mono (Nat.le_add_right _ _) (Nat.le_refl _)
    have := Wk.gen (b := ⟨blks.length, nx, none⟩) (l := blks ++ [.cells 24 [.sl 0 [] .full], .cells 25 [.lit (.int .i64 0)], .cells 50 [v3]]) (l' := blks ++ [.cells 24 [.sl 0 [] (.own nx 43)], .cells 25 [.lit (.int .i64 0)], .cells 50 [v3]]) (lv := lv) (nx := nx) (gl := gl)
      (df := [.fn 16 [.ptr blks.length 0, .ptr (blks.length + 1) 0]]) lv [none] (L := [(2, .ptr blks.length 0), (3, .ptr (blks.length + 1) 0), (4, .ptr (blks.length + 2) 0), (24, .lit (.int .i64 (n : Nat))), (25, .lit (.int .i64 0))])
      (A := ?A) (by simp) hlv hf.nd (by simp) (.one _) (by simp [CleanD, Cleans, Clean]) ?_ ?_
    · simpa [tcells] using this
    · refine BWs_app (by simpa using hB0) (.cons _ _ _ _ (.cells _ _ _ (.cons _ _ _ _ (.sl _ _ _ _ trivial ⟨by simp, by simp [ρG]⟩) .nil)) (.cons _ _ _ _ (.same _ (by simp [CleanB, Cleans, Clean])) (.cons _ _ _ _ (.same _ ?_) (.nil _))))
      simp [CleanB, Cleans]; exact hc3.mono (by omega) (Nat.le_refl _)
    · refine VWL.all ?_
      simp only [VWL]
      refine ⟨.eq ?_ ?_, .eq ?_ ?_, .eq ?_ ?_, .eq ?_ ?_, .eq ?_ ?_, trivial⟩ <;> simp [sy_seq, sy_region, sy_cons, sy_nil, sy_q, sy_n, sy_e, sy_gq, sy_put, sy_put0, sy_tmp, sy_int, sy_bool, sy_nilsl, sy_cond, sy_skip, sy_exit, sy_ret, sy_blockE, sy_blockR, QOp.sem, NOp.sem, EOp.sem, q, qg, qd, T, I, mv, sy_atL, sy_atL0, A0, cnd, rg, rsG, gdR, stripA, guardV, pickR, len_sl, len_ms, len_str, len_arr, unR, binR, ib_add, ib_sub, ib_mul, ib_quo, ib_rem, ib_eql, ib_neq, ib_lss, ib_leq, ib_gtr, ib_geq, is_shl, is_shr, bits64, Clean]
  · rintro ⟨i, ts, r, w⟩ ⟨hi, hrun, hw, hcw⟩
    simp only at hi hrun hw hcw
    by_cases hlt : i < n
    · simp [sy_seq, sy_region, sy_cons, sy_nil, sy_q, sy_n, sy_e, sy_gq, sy_put, sy_put0, sy_tmp, sy_int, sy_bool, sy_nilsl, sy_cond, sy_skip, sy_exit, sy_ret, sy_blockE, sy_blockR, QOp.sem, NOp.sem, EOp.sem, q, qg, qd, T, I, mv, sy_atL, sy_atL0, A0, cnd, rg, rsG, gdR, stripA, guardV, pickR, len_sl, len_ms, len_str, len_arr, unR, binR, ib_add, ib_sub, ib_mul, ib_quo, ib_rem, ib_eql, ib_neq, ib_lss, ib_leq, ib_gtr, ib_geq, is_shl, is_shr, bits64, sy_nili, sy_str, sy_nilp, sy_nilf, sy_nilmap, sy_slice, sy_draw, sy_dnil, sy_dcons, sy_dq, sy_dn, sy_de, sy_dgq, sy_rsA, sy_rechk0, sy_rechk, sy_call, sy_dcall, sy_panic, panicR, sy_hideE, sy_blockP, sy_after, sy_afterp, sy_afterD, sy_afterDp, nilcR, convR, bndV_nat, bndV_none, sh_ptr, sh_ep, ld_ptr, ld_ep, lds_ptr, lds_ep, ptrS, buildR, bsliceR, partsA, aFill, Places.get, vc_agg, vr_agg, vc_sl, vc_ptr, vc_ep, vc_mp, vc_ms, vc_fn, vc_ifc, vc_int, vc_bool, vc_str, vc_nili, vc_nilp, vc_nilm, vc_nilf, vr_sl, vr_ptr, vr_ep, vr_mp, vr_ms, vr_fn, vr_ifc, vr_int, vr_bool, vr_str, vr_nili, vr_nilp, vr_nilm, vr_nilf, on_sl, on_ptr, on_ep, on_mp, on_ms, on_fn, on_ifc, on_int, on_bool, on_str, on_nili, on_nilp, on_nilm, on_nilf, setAt, aSeq, storeR, hset, hlt]
      rw [sy_block]
      simp [sy_seq, sy_region, sy_cons, sy_nil, sy_q, sy_n, sy_e, sy_gq, sy_put, sy_put0, sy_tmp, sy_int, sy_bool, sy_nilsl, sy_cond, sy_skip, sy_exit, sy_ret, sy_blockE, sy_blockR, QOp.sem, NOp.sem, EOp.sem, q, qg, qd, T, I, mv, sy_atL, sy_atL0, A0, cnd, rg, rsG, gdR, stripA, guardV, pickR, len_sl, len_ms, len_str, len_arr, unR, binR, ib_add, ib_sub, ib_mul, ib_quo, ib_rem, ib_eql, ib_neq, ib_lss, ib_leq, ib_gtr, ib_geq, is_shl, is_shr, bits64, sy_nili, sy_str, sy_nilp, sy_nilf, sy_nilmap, sy_slice, sy_draw, sy_dnil, sy_dcons, sy_dq, sy_dn, sy_de, sy_dgq, sy_rsA, sy_rechk0, sy_rechk, sy_call, sy_dcall, sy_panic, panicR, sy_hideE, sy_blockP, sy_after, sy_afterp, sy_afterD, sy_afterDp, nilcR, convR, bndV_nat, bndV_none, sh_ptr, sh_ep, ld_ptr, ld_ep, lds_ptr, lds_ep, ptrS, buildR, bsliceR, partsA, aFill, Places.get, vc_agg, vr_agg, vc_sl, vc_ptr, vc_ep, vc_mp, vc_ms, vc_fn, vc_ifc, vc_int, vc_bool, vc_str, vc_nili, vc_nilp, vc_nilm, vc_nilf, vr_sl, vr_ptr, vr_ep, vr_mp, vr_ms, vr_fn, vr_ifc, vr_int, vr_bool, vr_str, vr_nili, vr_nilp, vr_nilm, vr_nilf, on_sl, on_ptr, on_ep, on_mp, on_ms, on_fn, on_ifc, on_int, on_bool, on_str, on_nili, on_nilp, on_nilm, on_nilf, setAt, aSeq, storeR, hset]
      have hil := runT_len hrun
      have hrl := runT_rest hrun
      have hM : ∀ (a b : ABlk) (w' : AVal), (blks ++ [a, b, ABlk.cells 50 [w']])[blks.length]? = some a := fun a b w' => by simp
      refine (test_ok t h32 (hget _ _ _) hw (hRs _ _ _ _) (by simp at hrl; omega)).mono ?_
      rintro o μ' ⟨w', hcw', rfl, hd⟩
      simp only [hset, hM]
      refine ⟨.inr (by simp), ?_⟩
      have hrun1 : runT (i + 1) (bs.drop 6) = match decT r with | .error c => .error c | .ok (x, r'') => .ok (ts ++ [x], r'') := by
        simp only [runT, hrun]
      cases hdt : decT r with
      | error c =>
        rw [hdt] at hd hrun1
        simp only at hd hrun1
        subst hd
        simp only [sy_afterDp, sy_hideE, sy_blockP]
        refine bad (by simp [sy_hideA, dstsD, sy_seq, sy_region, sy_cons, sy_nil, sy_q, sy_n, sy_e, sy_gq, sy_put, sy_put0, sy_tmp, sy_int, sy_bool, sy_nilsl, sy_cond, sy_skip, sy_exit, sy_ret, sy_blockE, sy_blockR, QOp.sem, NOp.sem, EOp.sem, q, qg, qd, T, I, mv, sy_atL, sy_atL0, A0, cnd, rg, rsG, gdR, stripA, guardV, pickR, len_sl, len_ms, len_str, len_arr, unR, binR, ib_add, ib_sub, ib_mul, ib_quo, ib_rem, ib_eql, ib_neq, ib_lss, ib_leq, ib_gtr, ib_geq, is_shl, is_shr, bits64]) (by simp [sy_hideA, dstsD, sy_seq, sy_region, sy_cons, sy_nil, sy_q, sy_n, sy_e, sy_gq, sy_put, sy_put0, sy_tmp, sy_int, sy_bool, sy_nilsl, sy_cond, sy_skip, sy_exit, sy_ret, sy_blockE, sy_blockR, QOp.sem, NOp.sem, EOp.sem, q, qg, qd, T, I, mv, sy_atL, sy_atL0, A0, cnd, rg, rsG, gdR, stripA, guardV, pickR, len_sl, len_ms, len_str, len_arr, unR, binR, ib_add, ib_sub, ib_mul, ib_quo, ib_rem, ib_eql, ib_neq, ib_lss, ib_leq, ib_gtr, ib_geq, is_shl, is_shr, bits64]) (fun r hr => by simp [hr]) ?_
        unfold decAll
        rw [if_neg h6', if_neg (fun h => h hm), hn, runT_err hrun1 n hlt]
      | ok p =>
        obtain ⟨x, r'⟩ := p
        rw [hdt] at hd hrun1
        simp only at hd hrun1
        obtain ⟨hw', rfl⟩ := hd
        obtain ⟨w'', hw'', hcw'', hvw⟩ := hw'.less hrow
        have hx4 : (x.cells .no).length = 4 := rfl
        have h48 : (ts.length + 1) * 48 ≤ 140737488355328 := by rw [hil]; omega
        have happ := fun (B : List ABlk) => app_sl (μ := ⟨B, lv ++ [nx], nx + 1, gl, [.fn 16 [.ptr blks.length 0, .ptr (blks.length + 1) 0]]⟩) (e := 43) (sz := 4) (bytes := 48) (n := ts.length) (m := 1) (cs := tcells ts) (ds := x.cells .no) (tk := .own nx 43) (tk' := .full)
          (by simp [CanApp]) (tcells_len ts) rfl h48 (x.all_one .no)
        have hset0 : ∀ (a a' b c : ABlk), (blks ++ [a, b, c]).set blks.length a' = blks ++ [a', b, c] := fun a a' b c => by simp [List.set_append]
        have hnd : ¬ nx ∈ lv := fun h => Nat.lt_irrefl _ (hf.ll nx h)
        have her : (lv ++ [nx]).erase nx = lv := by rw [List.erase_append_right _ hnd]; simp
        simp [sy_seq, sy_region, sy_cons, sy_nil, sy_q, sy_n, sy_e, sy_gq, sy_put, sy_put0, sy_tmp, sy_int, sy_bool, sy_nilsl, sy_cond, sy_skip, sy_exit, sy_ret, sy_blockE, sy_blockR, QOp.sem, NOp.sem, EOp.sem, q, qg, qd, T, I, mv, sy_atL, sy_atL0, A0, cnd, rg, rsG, gdR, stripA, guardV, pickR, len_sl, len_ms, len_str, len_arr, unR, binR, ib_add, ib_sub, ib_mul, ib_quo, ib_rem, ib_eql, ib_neq, ib_lss, ib_leq, ib_gtr, ib_geq, is_shl, is_shr, bits64, sy_nili, sy_str, sy_nilp, sy_nilf, sy_nilmap, sy_slice, sy_draw, sy_dnil, sy_dcons, sy_dq, sy_dn, sy_de, sy_dgq, sy_rsA, sy_rechk0, sy_rechk, sy_call, sy_dcall, sy_panic, panicR, sy_hideE, sy_blockP, sy_after, sy_afterp, sy_afterD, sy_afterDp, nilcR, convR, bndV_nat, bndV_none, sh_ptr, sh_ep, ld_ptr, ld_ep, lds_ptr, lds_ep, ptrS, buildR, bsliceR, partsA, aFill, Places.get, vc_agg, vr_agg, vc_sl, vc_ptr, vc_ep, vc_mp, vc_ms, vc_fn, vc_ifc, vc_int, vc_bool, vc_str, vc_nili, vc_nilp, vc_nilm, vc_nilf, vr_sl, vr_ptr, vr_ep, vr_mp, vr_ms, vr_fn, vr_ifc, vr_int, vr_bool, vr_str, vr_nili, vr_nilp, vr_nilm, vr_nilf, on_sl, on_ptr, on_ep, on_mp, on_ms, on_fn, on_ifc, on_int, on_bool, on_str, on_nili, on_nilp, on_nilm, on_nilf, setAt, aSeq, storeR, hset, hM, hx4, happ, hset0, appLv, her]
        refine ⟨i + 1, ts ++ [x], r', w'', ⟨hlt, hrun1, hw'', hcw'' _⟩, by omega, ?_⟩
        have hB0 : ∀ x ∈ blks, CleanB (blks.length + 3) nx x := fun x hx => (hf.wf.blk x hx).mono (Nat.le_add_right _ _) (Nat.le_refl _)
        have := Wk.gen (b := ⟨blks.length, nx, none⟩) (l := blks ++ [.cells 24 [.sl (ts.length + 1) (tcells ts ++ x.cells .no) (.own (nx + 1) 43)], .cells 25 [.lit (.int .i64 0)], .cells 50 [w']]) (l' := blks ++ [.cells 24 [.sl (ts ++ [x]).length (tcells (ts ++ [x])) (.own nx 43)], .cells 25 [.lit (.int .i64 0)], .cells 50 [w'']]) (lv := (nx + 1) :: lv) (nx := nx + 1 + 1) (gl := gl)
          (df := [.fn 16 [.ptr blks.length 0, .ptr (blks.length + 1) 0]]) lv [some (nx + 1)] (L := [(2, .ptr blks.length 0), (3, .ptr (blks.length + 1) 0), (4, .ptr (blks.length + 2) 0), (24, .lit (.int .i64 (n : Nat))), (25, .lit (.int .i64 ((i + 1 : Nat) : Int)))])
          (A := ?A2) (by simp) (fun r hr => ⟨hf.ll r hr, by simp [hr]⟩) hf.nd (by simp) (.one _) (by simp [CleanD, Cleans, Clean]) ?_ ?_
        · simpa using this
        · have hlen : (ts ++ [x]).length = ts.length + 1 := by simp
          rw [hlen, tcells_snoc]
          refine BWs_app (by simpa using hB0) (.cons _ _ _ _ (.cells _ _ _ (.cons _ _ _ _ (.sl _ _ _ _ (Cleans_append (Cleans_tcells ts) x.clean) ⟨rfl, by simp [ρG]⟩) .nil)) (.cons _ _ _ _ (.same _ (by simp [CleanB, Cleans, Clean])) (.cons _ _ _ _ (.cells _ _ _ (.cons _ _ _ _ (hvw _ _ _ _ (by simp)) .nil)) (.nil _))))
        · refine VWL.all ?_
          simp only [VWL]
          refine ⟨.eq ?_ ?_, .eq ?_ ?_, .eq ?_ ?_, .eq ?_ ?_, .eq ?_ ?_, trivial⟩ <;> simp [sy_seq, sy_region, sy_cons, sy_nil, sy_q, sy_n, sy_e, sy_gq, sy_put, sy_put0, sy_tmp, sy_int, sy_bool, sy_nilsl, sy_cond, sy_skip, sy_exit, sy_ret, sy_blockE, sy_blockR, QOp.sem, NOp.sem, EOp.sem, q, qg, qd, T, I, mv, sy_atL, sy_atL0, A0, cnd, rg, rsG, gdR, stripA, guardV, pickR, len_sl, len_ms, len_str, len_arr, unR, binR, ib_add, ib_sub, ib_mul, ib_quo, ib_rem, ib_eql, ib_neq, ib_lss, ib_leq, ib_gtr, ib_geq, is_shl, is_shr, bits64, Clean]
          simp only [IntKind.wrap_i64]; omega
    · have hie : i = n := by omega
      subst hie
      simp [sy_seq, sy_region, sy_cons, sy_nil, sy_q, sy_n, sy_e, sy_gq, sy_put, sy_put0, sy_tmp, sy_int, sy_bool, sy_nilsl, sy_cond, sy_skip, sy_exit, sy_ret, sy_blockE, sy_blockR, QOp.sem, NOp.sem, EOp.sem, q, qg, qd, T, I, mv, sy_atL, sy_atL0, A0, cnd, rg, rsG, gdR, stripA, guardV, pickR, len_sl, len_ms, len_str, len_arr, unR, binR, ib_add, ib_sub, ib_mul, ib_quo, ib_rem, ib_eql, ib_neq, ib_lss, ib_leq, ib_gtr, ib_geq, is_shl, is_shr, bits64, sy_nili, sy_str, sy_nilp, sy_nilf, sy_nilmap, sy_slice, sy_draw, sy_dnil, sy_dcons, sy_dq, sy_dn, sy_de, sy_dgq, sy_rsA, sy_rechk0, sy_rechk, sy_call, sy_dcall, sy_panic, panicR, sy_hideE, sy_blockP, sy_after, sy_afterp, sy_afterD, sy_afterDp, nilcR, convR, bndV_nat, bndV_none, sh_ptr, sh_ep, ld_ptr, ld_ep, lds_ptr, lds_ep, ptrS, buildR, bsliceR, partsA, aFill, Places.get, vc_agg, vr_agg, vc_sl, vc_ptr, vc_ep, vc_mp, vc_ms, vc_fn, vc_ifc, vc_int, vc_bool, vc_str, vc_nili, vc_nilp, vc_nilm, vc_nilf, vr_sl, vr_ptr, vr_ep, vr_mp, vr_ms, vr_fn, vr_ifc, vr_int, vr_bool, vr_str, vr_nili, vr_nilp, vr_nilm, vr_nilf, on_sl, on_ptr, on_ep, on_mp, on_ms, on_fn, on_ifc, on_int, on_bool, on_str, on_nili, on_nilp, on_nilm, on_nilf, setAt, aSeq, storeR, hget, hw.len]
      refine ⟨fun h5 => ?_, fun h5 => ?_⟩
      · refine bad (by simp [sy_seq, sy_region, sy_cons, sy_nil, sy_q, sy_n, sy_e, sy_gq, sy_put, sy_put0, sy_tmp, sy_int, sy_bool, sy_nilsl, sy_cond, sy_skip, sy_exit, sy_ret, sy_blockE, sy_blockR, QOp.sem, NOp.sem, EOp.sem, q, qg, qd, T, I, mv, sy_atL, sy_atL0, A0, cnd, rg, rsG, gdR, stripA, guardV, pickR, len_sl, len_ms, len_str, len_arr, unR, binR, ib_add, ib_sub, ib_mul, ib_quo, ib_rem, ib_eql, ib_neq, ib_lss, ib_leq, ib_gtr, ib_geq, is_shl, is_shr, bits64]) (by simp [sy_seq, sy_region, sy_cons, sy_nil, sy_q, sy_n, sy_e, sy_gq, sy_put, sy_put0, sy_tmp, sy_int, sy_bool, sy_nilsl, sy_cond, sy_skip, sy_exit, sy_ret, sy_blockE, sy_blockR, QOp.sem, NOp.sem, EOp.sem, q, qg, qd, T, I, mv, sy_atL, sy_atL0, A0, cnd, rg, rsG, gdR, stripA, guardV, pickR, len_sl, len_ms, len_str, len_arr, unR, binR, ib_add, ib_sub, ib_mul, ib_quo, ib_rem, ib_eql, ib_neq, ib_lss, ib_leq, ib_gtr, ib_geq, is_shl, is_shr, bits64]) (fun r hr => by simp [hr]) ?_
        unfold decAll
        rw [if_neg h6', if_neg (fun h => h hm), hn, hrun]
        simp [h5]
      · have hd : decAll bs = .ok ts := by
          unfold decAll
          rw [if_neg h6', if_neg (fun h => h hm), hn, hrun]
          simp [h5]
        refine ⟨hc16, dfr_none t ?_⟩
        refine retD (P := P) (k0 := blks.length) (s0 := nx) (l := blks) (lv0 := lv) (res := [.cell none 2, .cell none 3]) (v := decV (decAll bs)) ?_ (Nat.le_refl _) (fun r hr => ⟨hf.ll r hr, by simp [hr]⟩) hf.nd hf.wf.blk ?_ (hRR _ _ _ _ _ _ ⟨rfl, rfl⟩)
        · simp [retVs, sy_seq, sy_region, sy_cons, sy_nil, sy_q, sy_n, sy_e, sy_gq, sy_put, sy_put0, sy_tmp, sy_int, sy_bool, sy_nilsl, sy_cond, sy_skip, sy_exit, sy_ret, sy_blockE, sy_blockR, QOp.sem, NOp.sem, EOp.sem, q, qg, qd, T, I, mv, sy_atL, sy_atL0, A0, cnd, rg, rsG, gdR, stripA, guardV, pickR, len_sl, len_ms, len_str, len_arr, unR, binR, ib_add, ib_sub, ib_mul, ib_quo, ib_rem, ib_eql, ib_neq, ib_lss, ib_leq, ib_gtr, ib_geq, is_shl, is_shr, bits64, sh_ptr, sh_ep, ld_ptr, ld_ep, lds_ptr, lds_ep, ptrS]
        · simp [retVs, oneOr, sy_seq, sy_region, sy_cons, sy_nil, sy_q, sy_n, sy_e, sy_gq, sy_put, sy_put0, sy_tmp, sy_int, sy_bool, sy_nilsl, sy_cond, sy_skip, sy_exit, sy_ret, sy_blockE, sy_blockR, QOp.sem, NOp.sem, EOp.sem, q, qg, qd, T, I, mv, sy_atL, sy_atL0, A0, cnd, rg, rsG, gdR, stripA, guardV, pickR, len_sl, len_ms, len_str, len_arr, unR, binR, ib_add, ib_sub, ib_mul, ib_quo, ib_rem, ib_eql, ib_neq, ib_lss, ib_leq, ib_gtr, ib_geq, is_shl, is_shr, bits64, sh_ptr, sh_ep, ld_ptr, ld_ep, lds_ptr, lds_ep, ptrS, hd, decV]
          exact .tup _ _ (.cons _ _ _ _ (.sl _ _ _ _ (Cleans_tcells ts) trivial) (.cons _ _ _ _ (.same _ trivial) .nil))
end Go.Proofs.YtjleeecaebgblaaGreatDoor.AL.K
namespace Go.Proofs.YtjleeecaebgblaaGreatDoor.AL
open Go.RowKit
/-- A piece of bytes by value. -/
theorem cut_sl {bs : List UInt8} {e : TypeId} {lo hi : Option AVal} {i j : Nat} (k : Nat) (h1 : bndV lo 0 = ⟨True, i⟩) (h2 : bndV hi bs.length = ⟨True, j⟩) (hij : i ≤ j) (hj : j ≤ bs.length) (hk : k = j - i) :
    sliceV (.sl e 1) (.sl bs.length (aBytes bs) .no) lo hi none = ⟨True, .sl k (aBytes ((bs.drop i).take k)) .no⟩ := by
  subst hk
  simp only [sliceV, h1, h2, Nat.mul_one, aBytes_drop, aBytes_take]
  congr 1
  simp; omega
theorem IsB.sl' {row : Option (Nat × List UInt8)} {l : List UInt8} {n : Nat} (h : l.length = n) (tk : Tk) : IsB row (.sl n (aBytes l) tk) l := by subst h; exact .sl l tk
theorem HasRow.none {μ : AMem} : HasRow μ none := fun _ _ h => by cases h
theorem bndV_int {k : IntKind} {z : Int} {i d : Nat} (h : z = (i : Nat)) : bndV (some (.lit (.int k z))) d = ⟨True, i⟩ := by subst h; exact bndV_nat _ _ _
end Go.Proofs.YtjleeecaebgblaaGreatDoor.AL
namespace Go.Proofs.YtjleeecaebgblaaGreatDoor.AL.K
open Go Go.Proofs.YtjleeecaebgblaaGreatDoor.AL Go.RowKit
variable {P : Program} {gl : Nat → Option (List AVal)}
theorem gN1 (c : UInt8) : gN [c] = c.toNat := by simp [gN]
theorem g7 : fns.get 7 = some c7 := by rfl
theorem rdecode_ok (t : Tells P) (bs : List UInt8) (hl : bs.length ≤ 1000000) : Pure P gl 7 [.sl bs.length (aBytes bs) .no] (decV (decAll bs)) := by
  have hcd : Clean 0 0 (decV (decAll bs)) := by
    cases decAll bs with
    | error c => simp [decV, Clean, Cleans]
    | ok ts => simp [decV, Clean, Cleans, Cleans_tcells]
  refine Pure.of t.m (t.f 7 (by decide) _ g7) (by simp [c7]) hcd (by simp [Cleans, Clean, Cleans_aBytes]) ?_
  have err : ∀ {c : Int}, decAll bs = .error c → VW 0 0 0 (ρG 0 []) (.tup [.sl 0 [] .full, .lit (.int .i64 c)]) (decV (decAll bs)) := fun h => by
    rw [h]
    exact .tup _ _ (.cons _ _ _ _ (.sl _ _ _ _ trivial trivial) (.cons _ _ _ _ (.same _ trivial) .nil))
  simp only [c7]
  simp [sy_seq, sy_region, sy_cons, sy_nil, sy_q, sy_n, sy_e, sy_gq, sy_put, sy_put0, sy_tmp, sy_int, sy_bool, sy_nilsl, sy_cond, sy_skip, sy_exit, sy_ret, sy_blockE, sy_blockR, QOp.sem, NOp.sem, EOp.sem, q, qg, qd, T, I, mv, sy_atL, sy_atL0, A0, cnd, rg, rsG, gdR, stripA, guardV, pickR, len_sl, len_ms, len_str, len_arr, unR, binR, ib_add, ib_sub, ib_mul, ib_quo, ib_rem, ib_eql, ib_neq, ib_lss, ib_leq, ib_gtr, ib_geq, is_shl, is_shr, bits64, sy_nili, sy_str, sy_nilp, sy_nilf, sy_nilmap, sy_slice, sy_draw, sy_dnil, sy_dcons, sy_dq, sy_dn, sy_de, sy_dgq, sy_rsA, sy_rechk0, sy_rechk, sy_call, sy_dcall, sy_panic, panicR, sy_hideE, sy_blockP, sy_after, sy_afterp, sy_afterD, sy_afterDp, nilcR, convR, bndV_nat, bndV_none]
  refine ⟨fun h6 => ?_, fun h6 => ?_⟩
  · refine ret0 rfl rfl (by simp [retVs]) ?_
    simp [retVs, oneOr, sy_seq, sy_region, sy_cons, sy_nil, sy_q, sy_n, sy_e, sy_gq, sy_put, sy_put0, sy_tmp, sy_int, sy_bool, sy_nilsl, sy_cond, sy_skip, sy_exit, sy_ret, sy_blockE, sy_blockR, QOp.sem, NOp.sem, EOp.sem, q, qg, qd, T, I, mv, sy_atL, sy_atL0, A0, cnd, rg, rsG, gdR, stripA, guardV, pickR, len_sl, len_ms, len_str, len_arr, unR, binR, ib_add, ib_sub, ib_mul, ib_quo, ib_rem, ib_eql, ib_neq, ib_lss, ib_leq, ib_gtr, ib_geq, is_shl, is_shr, bits64, sy_nili, sy_str, sy_nilp, sy_nilf, sy_nilmap, sy_slice, sy_draw, sy_dnil, sy_dcons, sy_dq, sy_dn, sy_de, sy_dgq, sy_rsA, sy_rechk0, sy_rechk, sy_call, sy_dcall, sy_panic, panicR, sy_hideE, sy_blockP, sy_after, sy_afterp, sy_afterD, sy_afterDp, nilcR, convR, bndV_nat, bndV_none]
    refine err ?_
    have : bs.length < 6 := by omega
    simp [decAll, this]
  have h6' : ¬ bs.length < 6 := by omega
  have s4 := cut_sl (bs := bs) (e := 5) (lo := none) (hi := some (.lit (.int .i64 4))) (i := 0) (j := 4) 4 (bndV_none _) (bndV_int rfl) (by omega) (by omega) rfl
  simp only [List.drop_zero] at s4
  have b4 := (IsB.sl' (row := none) (l := bs.take 4) (n := 4) (by simp; omega) .no).bstr (μ := ⟨[], [], 0, gl, []⟩) .none
  simp [s4, b4, sy_seq, sy_region, sy_cons, sy_nil, sy_q, sy_n, sy_e, sy_gq, sy_put, sy_put0, sy_tmp, sy_int, sy_bool, sy_nilsl, sy_cond, sy_skip, sy_exit, sy_ret, sy_blockE, sy_blockR, QOp.sem, NOp.sem, EOp.sem, q, qg, qd, T, I, mv, sy_atL, sy_atL0, A0, cnd, rg, rsG, gdR, stripA, guardV, pickR, len_sl, len_ms, len_str, len_arr, unR, binR, ib_add, ib_sub, ib_mul, ib_quo, ib_rem, ib_eql, ib_neq, ib_lss, ib_leq, ib_gtr, ib_geq, is_shl, is_shr, bits64, sy_nili, sy_str, sy_nilp, sy_nilf, sy_nilmap, sy_slice, sy_draw, sy_dnil, sy_dcons, sy_dq, sy_dn, sy_de, sy_dgq, sy_rsA, sy_rechk0, sy_rechk, sy_call, sy_dcall, sy_panic, panicR, sy_hideE, sy_blockP, sy_after, sy_afterp, sy_afterD, sy_afterDp, nilcR, convR, bndV_nat, bndV_none, bS, strBinR]
  refine ⟨fun hm => ?_, fun hm => ?_⟩
  · refine ret0 rfl rfl (by simp [retVs]) ?_
    simp [retVs, oneOr, sy_seq, sy_region, sy_cons, sy_nil, sy_q, sy_n, sy_e, sy_gq, sy_put, sy_put0, sy_tmp, sy_int, sy_bool, sy_nilsl, sy_cond, sy_skip, sy_exit, sy_ret, sy_blockE, sy_blockR, QOp.sem, NOp.sem, EOp.sem, q, qg, qd, T, I, mv, sy_atL, sy_atL0, A0, cnd, rg, rsG, gdR, stripA, guardV, pickR, len_sl, len_ms, len_str, len_arr, unR, binR, ib_add, ib_sub, ib_mul, ib_quo, ib_rem, ib_eql, ib_neq, ib_lss, ib_leq, ib_gtr, ib_geq, is_shl, is_shr, bits64, sy_nili, sy_str, sy_nilp, sy_nilf, sy_nilmap, sy_slice, sy_draw, sy_dnil, sy_dcons, sy_dq, sy_dn, sy_de, sy_dgq, sy_rsA, sy_rechk0, sy_rechk, sy_call, sy_dcall, sy_panic, panicR, sy_hideE, sy_blockP, sy_after, sy_afterp, sy_afterD, sy_afterDp, nilcR, convR, bndV_nat, bndV_none]
    refine err ?_
    unfold decAll
    rw [if_neg h6', if_pos hm]
  simp only [sy_block]
  generalize hn : gN ((bs.drop 4).take 2) = n
  have hn16 : n < 65536 := by
    have := gN_lt (bs.drop 4) 2
    omega
  have getn : ∀ (l : List UInt8) (k : Nat), l.length = k → k ≤ 6 → Pure P gl 20 [.sl k (aBytes l) .no] (.lit (.int .i64 (gN l : Nat))) := fun l k h1 h2 => by
    subst h1; exact get_ok t l h2
  refine sy_loopL (α := Nat × List Te × Nat) (fun x => x.1 ≤ n ∧ runT x.1 (bs.drop 6) = .ok (x.2.1, bs.drop x.2.2) ∧ x.2.2 ≤ bs.length)
    (fun x => [(0, .sl bs.length (aBytes bs) .no), (4, .sl x.2.1.length (tcells x.2.1) (.own 0 43)), (5, .lit (.int .i64 (x.2.2 : Nat))), (6, .lit (.int .i64 (x.1 : Nat)))])
    (fun x => ⟨[], [0], 1, gl, []⟩) (fun x => n - x.1) (0, [], 6) ⟨Nat.zero_le _, rfl, by simp; omega⟩ ?_ ?_
  · have := Wk.gen (b := ⟨0, 0, none⟩) (l := []) (l' := []) (lv := []) (nx := 0) (gl := gl) (df := []) [] [none] (L := [(0, .sl bs.length (aBytes bs) .no), (4, .sl ([] : List Te).length (tcells []) (.own 0 43)), (5, .lit (.int .i64 6)), (6, .lit (.int .i64 0))])
      (A := ?A) (by simp) (by simp) List.nodup_nil (by simp) (.one _) (by simp) (.nil _) ?_
    · simpa using this
    · refine VWL.all ?_
      simp only [VWL]
      refine ⟨.eq ?_ ?_, .sl' (tk := .full) ?_ ?_ ⟨by simp, by simp [ρG]⟩, .eq ?_ ?_, .eq ?_ ?_, trivial⟩ <;> simp [sy_seq, sy_region, sy_cons, sy_nil, sy_q, sy_n, sy_e, sy_gq, sy_put, sy_put0, sy_tmp, sy_int, sy_bool, sy_nilsl, sy_cond, sy_skip, sy_exit, sy_ret, sy_blockE, sy_blockR, QOp.sem, NOp.sem, EOp.sem, q, qg, qd, T, I, mv, sy_atL, sy_atL0, A0, cnd, rg, rsG, gdR, stripA, guardV, pickR, len_sl, len_ms, len_str, len_arr, unR, binR, ib_add, ib_sub, ib_mul, ib_quo, ib_rem, ib_eql, ib_neq, ib_lss, ib_leq, ib_gtr, ib_geq, is_shl, is_shr, bits64, Clean, Cleans, Cleans_aBytes, tcells]
  · rintro ⟨i, ts, p⟩ ⟨hi, hrun, hp⟩
    simp only at hi hrun hp
    have hil := runT_len hrun
    have s46 := cut_sl (bs := bs) (e := 5) (lo := some (.lit (.int .i64 4))) (hi := some (.lit (.int .i64 6))) (i := 4) (j := 6) 2 (bndV_int rfl) (bndV_int rfl) (by omega) (by omega) rfl
    simp [sy_seq, sy_region, sy_cons, sy_nil, sy_q, sy_n, sy_e, sy_gq, sy_put, sy_put0, sy_tmp, sy_int, sy_bool, sy_nilsl, sy_cond, sy_skip, sy_exit, sy_ret, sy_blockE, sy_blockR, QOp.sem, NOp.sem, EOp.sem, q, qg, qd, T, I, mv, sy_atL, sy_atL0, A0, cnd, rg, rsG, gdR, stripA, guardV, pickR, len_sl, len_ms, len_str, len_arr, unR, binR, ib_add, ib_sub, ib_mul, ib_quo, ib_rem, ib_eql, ib_neq, ib_lss, ib_leq, ib_gtr, ib_geq, is_shl, is_shr, bits64, sy_nili, sy_str, sy_nilp, sy_nilf, sy_nilmap, sy_slice, sy_draw, sy_dnil, sy_dcons, sy_dq, sy_dn, sy_de, sy_dgq, sy_rsA, sy_rechk0, sy_rechk, sy_call, sy_dcall, sy_panic, panicR, sy_hideE, sy_blockP, sy_after, sy_afterp, sy_afterD, sy_afterDp, nilcR, convR, bndV_nat, bndV_none, s46]
    refine (getn _ 2 (by simp; omega) (by omega)).ret rfl ?_
    by_cases hlt : i < n
    · simp [sy_seq, sy_region, sy_cons, sy_nil, sy_q, sy_n, sy_e, sy_gq, sy_put, sy_put0, sy_tmp, sy_int, sy_bool, sy_nilsl, sy_cond, sy_skip, sy_exit, sy_ret, sy_blockE, sy_blockR, QOp.sem, NOp.sem, EOp.sem, q, qg, qd, T, I, mv, sy_atL, sy_atL0, A0, cnd, rg, rsG, gdR, stripA, guardV, pickR, len_sl, len_ms, len_str, len_arr, unR, binR, ib_add, ib_sub, ib_mul, ib_quo, ib_rem, ib_eql, ib_neq, ib_lss, ib_leq, ib_gtr, ib_geq, is_shl, is_shr, bits64, sy_nili, sy_str, sy_nilp, sy_nilf, sy_nilmap, sy_slice, sy_draw, sy_dnil, sy_dcons, sy_dq, sy_dn, sy_de, sy_dgq, sy_rsA, sy_rechk0, sy_rechk, sy_call, sy_dcall, sy_panic, panicR, sy_hideE, sy_blockP, sy_after, sy_afterp, sy_afterD, sy_afterDp, nilcR, convR, bndV_nat, bndV_none, hlt, hn]
      rw [sy_block]
      have w9 : IntKind.i64.wrap ((p : Int) + 9) = (p : Int) + 9 := IntWalk.i64_in _ (by omega)
      have w6 : IntKind.i64.wrap ((p : Int) + 6) = (p : Int) + 6 := IntWalk.i64_in _ (by omega)
      have w5 : IntKind.i64.wrap ((p : Int) + 5) = (p : Int) + 5 := IntWalk.i64_in _ (by omega)
      have w1 : IntKind.i64.wrap ((p : Int) + 1) = (p : Int) + 1 := IntWalk.i64_in _ (by omega)
      have hrun1 : runT (i + 1) (bs.drop 6) = match decT (bs.drop p) with | .error c => .error c | .ok (x, r'') => .ok (ts ++ [x], r'') := by
        simp only [runT, hrun] <;> cases decT (bs.drop p) <;> rfl
      have bad : ∀ {c : Int}, decT (bs.drop p) = .error c → decAll bs = .error c := fun h => by
        unfold decAll
        rw [if_neg h6', if_neg (fun h => h hm), hn, runT_err (i := i + 1) (by rw [hrun1, h]) n hlt]
      by_cases h9 : bs.length < p + 9
      · have h9' : (bs.length : Int) < (p : Int) + 9 := by omega
        simp [sy_seq, sy_region, sy_cons, sy_nil, sy_q, sy_n, sy_e, sy_gq, sy_put, sy_put0, sy_tmp, sy_int, sy_bool, sy_nilsl, sy_cond, sy_skip, sy_exit, sy_ret, sy_blockE, sy_blockR, QOp.sem, NOp.sem, EOp.sem, q, qg, qd, T, I, mv, sy_atL, sy_atL0, A0, cnd, rg, rsG, gdR, stripA, guardV, pickR, len_sl, len_ms, len_str, len_arr, unR, binR, ib_add, ib_sub, ib_mul, ib_quo, ib_rem, ib_eql, ib_neq, ib_lss, ib_leq, ib_gtr, ib_geq, is_shl, is_shr, bits64, sy_nili, sy_str, sy_nilp, sy_nilf, sy_nilmap, sy_slice, sy_draw, sy_dnil, sy_dcons, sy_dq, sy_dn, sy_de, sy_dgq, sy_rsA, sy_rechk0, sy_rechk, sy_call, sy_dcall, sy_panic, panicR, sy_hideE, sy_blockP, sy_after, sy_afterp, sy_afterD, sy_afterDp, nilcR, convR, bndV_nat, bndV_none, w9, h9', sy_gcall]
        refine .inl ⟨.lit (.int .i64 0), trivial, ?_⟩
        simp [sy_seq, sy_region, sy_cons, sy_nil, sy_q, sy_n, sy_e, sy_gq, sy_put, sy_put0, sy_tmp, sy_int, sy_bool, sy_nilsl, sy_cond, sy_skip, sy_exit, sy_ret, sy_blockE, sy_blockR, QOp.sem, NOp.sem, EOp.sem, q, qg, qd, T, I, mv, sy_atL, sy_atL0, A0, cnd, rg, rsG, gdR, stripA, guardV, pickR, len_sl, len_ms, len_str, len_arr, unR, binR, ib_add, ib_sub, ib_mul, ib_quo, ib_rem, ib_eql, ib_neq, ib_lss, ib_leq, ib_gtr, ib_geq, is_shl, is_shr, bits64, sy_nili, sy_str, sy_nilp, sy_nilf, sy_nilmap, sy_slice, sy_draw, sy_dnil, sy_dcons, sy_dq, sy_dn, sy_de, sy_dgq, sy_rsA, sy_rechk0, sy_rechk, sy_call, sy_dcall, sy_panic, panicR, sy_hideE, sy_blockP, sy_after, sy_afterp, sy_afterD, sy_afterDp, nilcR, convR, bndV_nat, bndV_none]
        refine ret0 rfl rfl (by simp [retVs]) ?_
        simp [retVs, oneOr, sy_seq, sy_region, sy_cons, sy_nil, sy_q, sy_n, sy_e, sy_gq, sy_put, sy_put0, sy_tmp, sy_int, sy_bool, sy_nilsl, sy_cond, sy_skip, sy_exit, sy_ret, sy_blockE, sy_blockR, QOp.sem, NOp.sem, EOp.sem, q, qg, qd, T, I, mv, sy_atL, sy_atL0, A0, cnd, rg, rsG, gdR, stripA, guardV, pickR, len_sl, len_ms, len_str, len_arr, unR, binR, ib_add, ib_sub, ib_mul, ib_quo, ib_rem, ib_eql, ib_neq, ib_lss, ib_leq, ib_gtr, ib_geq, is_shl, is_shr, bits64, sy_nili, sy_str, sy_nilp, sy_nilf, sy_nilmap, sy_slice, sy_draw, sy_dnil, sy_dcons, sy_dq, sy_dn, sy_de, sy_dgq, sy_rsA, sy_rechk0, sy_rechk, sy_call, sy_dcall, sy_panic, panicR, sy_hideE, sy_blockP, sy_after, sy_afterp, sy_afterD, sy_afterDp, nilcR, convR, bndV_nat, bndV_none]
        refine err (bad ?_)
        have : (bs.drop p).length < 9 := by simp; omega
        simp only [decT, this, if_true]
      · have h9' : ¬ (bs.length : Int) < (p : Int) + 9 := by omega
        have s69 := cut_sl (bs := bs) (e := 5) (lo := some (.lit (.int .i64 ((p : Int) + 6)))) (hi := some (.lit (.int .i64 ((p : Int) + 9)))) (i := p + 6) (j := p + 9) 3 (bndV_int (by omega)) (bndV_int (by omega)) (by omega) (by omega) (by omega)
        have g69 := getn ((bs.drop (p + 6)).take 3) 3 (by simp; omega) (by omega)
        generalize hz : gN ((bs.drop (p + 6)).take 3) = z at g69
        have hz24 : z < 16777216 := by
          have := gN_lt (bs.drop (p + 6)) 3
          omega
        have wz : IntKind.i64.wrap ((p : Int) + 9 + (z : Nat)) = (p : Int) + 9 + (z : Nat) := IntWalk.i64_in _ (by omega)
        have hr9 : ¬ (bs.drop p).length < 9 := by simp; omega
        have hrz : gN (((bs.drop p).drop 6).take 3) = z := by rw [List.drop_drop, hz]
        simp [sy_seq, sy_region, sy_cons, sy_nil, sy_q, sy_n, sy_e, sy_gq, sy_put, sy_put0, sy_tmp, sy_int, sy_bool, sy_nilsl, sy_cond, sy_skip, sy_exit, sy_ret, sy_blockE, sy_blockR, QOp.sem, NOp.sem, EOp.sem, q, qg, qd, T, I, mv, sy_atL, sy_atL0, A0, cnd, rg, rsG, gdR, stripA, guardV, pickR, len_sl, len_ms, len_str, len_arr, unR, binR, ib_add, ib_sub, ib_mul, ib_quo, ib_rem, ib_eql, ib_neq, ib_lss, ib_leq, ib_gtr, ib_geq, is_shl, is_shr, bits64, sy_nili, sy_str, sy_nilp, sy_nilf, sy_nilmap, sy_slice, sy_draw, sy_dnil, sy_dcons, sy_dq, sy_dn, sy_de, sy_dgq, sy_rsA, sy_rechk0, sy_rechk, sy_call, sy_dcall, sy_panic, panicR, sy_hideE, sy_blockP, sy_after, sy_afterp, sy_afterD, sy_afterDp, nilcR, convR, bndV_nat, bndV_none, w9, w6, h9', sy_gcall, s69]
        refine .inl ⟨.lit (.int .i64 (z : Nat)), trivial, g69 _ rfl, ?_⟩
        simp [sy_seq, sy_region, sy_cons, sy_nil, sy_q, sy_n, sy_e, sy_gq, sy_put, sy_put0, sy_tmp, sy_int, sy_bool, sy_nilsl, sy_cond, sy_skip, sy_exit, sy_ret, sy_blockE, sy_blockR, QOp.sem, NOp.sem, EOp.sem, q, qg, qd, T, I, mv, sy_atL, sy_atL0, A0, cnd, rg, rsG, gdR, stripA, guardV, pickR, len_sl, len_ms, len_str, len_arr, unR, binR, ib_add, ib_sub, ib_mul, ib_quo, ib_rem, ib_eql, ib_neq, ib_lss, ib_leq, ib_gtr, ib_geq, is_shl, is_shr, bits64, sy_nili, sy_str, sy_nilp, sy_nilf, sy_nilmap, sy_slice, sy_draw, sy_dnil, sy_dcons, sy_dq, sy_dn, sy_de, sy_dgq, sy_rsA, sy_rechk0, sy_rechk, sy_call, sy_dcall, sy_panic, panicR, sy_hideE, sy_blockP, sy_after, sy_afterp, sy_afterD, sy_afterDp, nilcR, convR, bndV_nat, bndV_none, wz]
        refine ⟨fun hz9 => ?_, fun hz9 => ?_⟩
        · refine ret0 rfl rfl (by simp [retVs]) ?_
          simp [retVs, oneOr, sy_seq, sy_region, sy_cons, sy_nil, sy_q, sy_n, sy_e, sy_gq, sy_put, sy_put0, sy_tmp, sy_int, sy_bool, sy_nilsl, sy_cond, sy_skip, sy_exit, sy_ret, sy_blockE, sy_blockR, QOp.sem, NOp.sem, EOp.sem, q, qg, qd, T, I, mv, sy_atL, sy_atL0, A0, cnd, rg, rsG, gdR, stripA, guardV, pickR, len_sl, len_ms, len_str, len_arr, unR, binR, ib_add, ib_sub, ib_mul, ib_quo, ib_rem, ib_eql, ib_neq, ib_lss, ib_leq, ib_gtr, ib_geq, is_shl, is_shr, bits64, sy_nili, sy_str, sy_nilp, sy_nilf, sy_nilmap, sy_slice, sy_draw, sy_dnil, sy_dcons, sy_dq, sy_dn, sy_de, sy_dgq, sy_rsA, sy_rechk0, sy_rechk, sy_call, sy_dcall, sy_panic, panicR, sy_hideE, sy_blockP, sy_after, sy_afterp, sy_afterD, sy_afterDp, nilcR, convR, bndV_nat, bndV_none]
          refine err (bad ?_)
          have : (bs.drop p).length < 9 + z := by simp; omega
          unfold decT
          rw [if_neg hr9, hrz, if_pos this]
        · refine g69.ret rfl ?_
          have hB := IsB.sl (row := none) bs .no
          have lp := fun (μ : AMem) => hB.load (μ := μ) .none (e := 5) (k := .i64) (i := p) (by omega)
          have l5 := fun (μ : AMem) => hB.load (μ := μ) .none (e := 5) (k := .i64) (i := p + 5) (by omega)
          have lpo := (lp ⟨[], [], 0, gl, []⟩).1
          have l5o := (l5 ⟨[], [], 0, gl, []⟩).1
          have lpv := fun μ => (lp μ).2
          have l5v := fun μ => (l5 μ).2
          rw [show ((p + 5 : Nat) : Int) = (p : Int) + 5 from by omega] at l5o l5v
          have s15 := cut_sl (bs := bs) (e := 5) (lo := some (.lit (.int .i64 ((p : Int) + 1)))) (hi := some (.lit (.int .i64 ((p : Int) + 5)))) (i := p + 1) (j := p + 5) 4 (bndV_int (by omega)) (bndV_int (by omega)) (by omega) (by omega) (by omega)
          have s9z := cut_sl (bs := bs) (e := 5) (lo := some (.lit (.int .i64 ((p : Int) + 9)))) (hi := some (.lit (.int .i64 ((p : Int) + 9 + (z : Nat))))) (i := p + 9) (j := p + 9 + z) z (bndV_int (by omega)) (bndV_int (by omega)) (by omega) (by omega) (by omega)
          have g15 := getn ((bs.drop (p + 1)).take 4) 4 (by simp; omega) (by omega)
          have hzl : ((bs.drop (p + 9)).take z).length = z := by simp; omega
          have happ := fun (B : List ABlk) (lv : List Nat) (nx : Nat) => app_sl (μ := ⟨B, lv, nx, gl, []⟩) (e := 5) (sz := 1) (bytes := 1) (n := 0) (m := z) (cs := []) (ds := aBytes ((bs.drop (p + 9)).take z)) (tk := .full) (tk' := .no)
            trivial rfl (by rw [aBytes_length, hzl, Nat.mul_one]) (by omega) (all_one_aBytes _)
          simp only [Nat.zero_add, List.nil_append, appLv] at happ
          have wu : ∀ b : UInt8, IntKind.i64.wrap (b.toNat : Int) = (b.toNat : Int) := fun b => IntWalk.i64_in _ (by have := b.toNat_lt; omega)
          simp [sy_seq, sy_region, sy_cons, sy_nil, sy_q, sy_n, sy_e, sy_gq, sy_put, sy_put0, sy_tmp, sy_int, sy_bool, sy_nilsl, sy_cond, sy_skip, sy_exit, sy_ret, sy_blockE, sy_blockR, QOp.sem, NOp.sem, EOp.sem, q, qg, qd, T, I, mv, sy_atL, sy_atL0, A0, cnd, rg, rsG, gdR, stripA, guardV, pickR, len_sl, len_ms, len_str, len_arr, unR, binR, ib_add, ib_sub, ib_mul, ib_quo, ib_rem, ib_eql, ib_neq, ib_lss, ib_leq, ib_gtr, ib_geq, is_shl, is_shr, bits64, sy_nili, sy_str, sy_nilp, sy_nilf, sy_nilmap, sy_slice, sy_draw, sy_dnil, sy_dcons, sy_dq, sy_dn, sy_de, sy_dgq, sy_rsA, sy_rechk0, sy_rechk, sy_call, sy_dcall, sy_panic, panicR, sy_hideE, sy_blockP, sy_after, sy_afterp, sy_afterD, sy_afterDp, nilcR, convR, bndV_nat, bndV_none, wz, w9, w6, w5, w1, lpo, lpv, l5o, l5v, s15, s9z, wu]
          refine calls.mono (g15 ⟨_, _, _, gl, _⟩ rfl) ?_
          rintro o μ' ⟨rfl, rfl⟩
          simp [sy_seq, sy_region, sy_cons, sy_nil, sy_q, sy_n, sy_e, sy_gq, sy_put, sy_put0, sy_tmp, sy_int, sy_bool, sy_nilsl, sy_cond, sy_skip, sy_exit, sy_ret, sy_blockE, sy_blockR, QOp.sem, NOp.sem, EOp.sem, q, qg, qd, T, I, mv, sy_atL, sy_atL0, A0, cnd, rg, rsG, gdR, stripA, guardV, pickR, len_sl, len_ms, len_str, len_arr, unR, binR, ib_add, ib_sub, ib_mul, ib_quo, ib_rem, ib_eql, ib_neq, ib_lss, ib_leq, ib_gtr, ib_geq, is_shl, is_shr, bits64, sy_nili, sy_str, sy_nilp, sy_nilf, sy_nilmap, sy_slice, sy_draw, sy_dnil, sy_dcons, sy_dq, sy_dn, sy_de, sy_dgq, sy_rsA, sy_rechk0, sy_rechk, sy_call, sy_dcall, sy_panic, panicR, sy_hideE, sy_blockP, sy_after, sy_afterp, sy_afterD, sy_afterDp, nilcR, convR, bndV_nat, bndV_none, sh_ptr, sh_ep, ld_ptr, ld_ep, lds_ptr, lds_ep, ptrS, buildR, bsliceR, partsA, aFill, Places.get, vc_agg, vr_agg, vc_sl, vc_ptr, vc_ep, vc_mp, vc_ms, vc_fn, vc_ifc, vc_int, vc_bool, vc_str, vc_nili, vc_nilp, vc_nilm, vc_nilf, vr_sl, vr_ptr, vr_ep, vr_mp, vr_ms, vr_fn, vr_ifc, vr_int, vr_bool, vr_str, vr_nili, vr_nilp, vr_nilm, vr_nilf, on_sl, on_ptr, on_ep, on_mp, on_ms, on_fn, on_ifc, on_int, on_bool, on_str, on_nili, on_nilp, on_nilm, on_nilf, setAt, aSeq, storeR, wz, w9, w6, w5, w1, lpo, lpv, l5o, l5v, s15, s9z, happ, wu, sy_gcall]
          have hr0 : gN ((bs.drop p).take 1) = bs[p].toNat := by
            rw [List.drop_eq_getElem_cons (by omega)]; exact gN1 _
          have hr5 : gN (((bs.drop p).drop 5).take 1) = bs[p + 5].toNat := by
            rw [List.drop_drop, List.drop_eq_getElem_cons (by omega)]; exact gN1 _
          generalize hX : (⟨(bs.drop (p + 9)).take z, decide ((bs[p].toNat : Int) = 1), (gN ((bs.drop (p + 1)).take 4) : Nat), (bs[p + 5].toNat : Nat)⟩ : Te) = X
          have hXc : X.cells .no = [.sl z (aBytes ((bs.drop (p + 9)).take z)) .no, .lit (.bool (decide ((bs[p].toNat : Int) = 1))), .lit (.int .i64 (gN ((bs.drop (p + 1)).take 4) : Nat)), .lit (.int .i64 (bs[p + 5].toNat : Nat))] := by
            subst hX; simp only [Te.cells, hzl]
          have hrT := right21 (gl := gl) t X
          unfold Pure at hrT
          rw [hXc] at hrT
          have hdT : decT (bs.drop p) = if 1 < bs[p].toNat ∨ X.right = false then .error 6 else .ok (X, bs.drop (p + 9 + z)) := by
            have hXe : (⟨((bs.drop p).drop 9).take z, decide (bs[p].toNat = 1), (gN (((bs.drop p).drop 1).take 4) : Nat), (bs[p + 5].toNat : Nat)⟩ : Te) = X := by
              subst hX
              simp only [List.drop_drop]
              congr 1
              simp; omega
            unfold decT
            rw [if_neg hr9, hrz, if_neg (by simp; omega), hr0, hr5, hXe, List.drop_drop]
            simp only [Nat.add_assoc]
          refine .inl ⟨.lit (.bool X.right), trivial, fun _ => calls.less (hrT _ rfl) ⟨_, [], rfl, .agg ⟨_, _, rfl, .no _ _ _, _, _, rfl, .refl _, _, _, rfl, .refl _, _, _, rfl, .refl _, rfl⟩, rfl⟩, ?_⟩
          have h48 : (ts.length + 1) * 48 ≤ 140737488355328 := by rw [hil]; omega
          have happ2 := fun (B : List ABlk) => app_sl (μ := ⟨B, [1, 0], 2, gl, []⟩) (e := 43) (sz := 4) (bytes := 48) (n := ts.length) (m := 1) (cs := tcells ts) (ds := [.sl z (aBytes ((bs.drop (p + 9)).take z)) (.own 1 5), .lit (.bool (decide ((bs[p].toNat : Int) = 1))), .lit (.int .i64 (gN ((bs.drop (p + 1)).take 4) : Nat)), .lit (.int .i64 (bs[p + 5].toNat : Nat))]) (tk := .own 0 43) (tk' := .full)
            (by simp [CanApp]) (tcells_len ts) rfl h48 rfl
          simp [sy_seq, sy_region, sy_cons, sy_nil, sy_q, sy_n, sy_e, sy_gq, sy_put, sy_put0, sy_tmp, sy_int, sy_bool, sy_nilsl, sy_cond, sy_skip, sy_exit, sy_ret, sy_blockE, sy_blockR, QOp.sem, NOp.sem, EOp.sem, q, qg, qd, T, I, mv, sy_atL, sy_atL0, A0, cnd, rg, rsG, gdR, stripA, guardV, pickR, len_sl, len_ms, len_str, len_arr, unR, binR, ib_add, ib_sub, ib_mul, ib_quo, ib_rem, ib_eql, ib_neq, ib_lss, ib_leq, ib_gtr, ib_geq, is_shl, is_shr, bits64, sy_nili, sy_str, sy_nilp, sy_nilf, sy_nilmap, sy_slice, sy_draw, sy_dnil, sy_dcons, sy_dq, sy_dn, sy_de, sy_dgq, sy_rsA, sy_rechk0, sy_rechk, sy_call, sy_dcall, sy_panic, panicR, sy_hideE, sy_blockP, sy_after, sy_afterp, sy_afterD, sy_afterDp, nilcR, convR, bndV_nat, bndV_none, sh_ptr, sh_ep, ld_ptr, ld_ep, lds_ptr, lds_ep, ptrS, buildR, bsliceR, partsA, aFill, Places.get, vc_agg, vr_agg, vc_sl, vc_ptr, vc_ep, vc_mp, vc_ms, vc_fn, vc_ifc, vc_int, vc_bool, vc_str, vc_nili, vc_nilp, vc_nilm, vc_nilf, vr_sl, vr_ptr, vr_ep, vr_mp, vr_ms, vr_fn, vr_ifc, vr_int, vr_bool, vr_str, vr_nili, vr_nilp, vr_nilm, vr_nilf, on_sl, on_ptr, on_ep, on_mp, on_ms, on_fn, on_ifc, on_int, on_bool, on_str, on_nili, on_nilp, on_nilm, on_nilf, setAt, aSeq, storeR, happ2, appLv]
          refine ⟨fun hbad => ?_, fun hb1 hr1 => ?_⟩
          · refine ret0 rfl rfl (by simp [retVs]) ?_
            simp [retVs, oneOr, sy_seq, sy_region, sy_cons, sy_nil, sy_q, sy_n, sy_e, sy_gq, sy_put, sy_put0, sy_tmp, sy_int, sy_bool, sy_nilsl, sy_cond, sy_skip, sy_exit, sy_ret, sy_blockE, sy_blockR, QOp.sem, NOp.sem, EOp.sem, q, qg, qd, T, I, mv, sy_atL, sy_atL0, A0, cnd, rg, rsG, gdR, stripA, guardV, pickR, len_sl, len_ms, len_str, len_arr, unR, binR, ib_add, ib_sub, ib_mul, ib_quo, ib_rem, ib_eql, ib_neq, ib_lss, ib_leq, ib_gtr, ib_geq, is_shl, is_shr, bits64, sy_nili, sy_str, sy_nilp, sy_nilf, sy_nilmap, sy_slice, sy_draw, sy_dnil, sy_dcons, sy_dq, sy_dn, sy_de, sy_dgq, sy_rsA, sy_rechk0, sy_rechk, sy_call, sy_dcall, sy_panic, panicR, sy_hideE, sy_blockP, sy_after, sy_afterp, sy_afterD, sy_afterDp, nilcR, convR, bndV_nat, bndV_none]
            refine err (bad ?_)
            rw [hdT, if_pos (hbad.imp (fun h => by omega) (fun h => h))]
          · have hnb : ¬ (1 < bs[p].toNat ∨ X.right = false) := by
              rintro (h | h)
              · omega
              · rw [hr1] at h; cases h
            refine ⟨i + 1, ts ++ [X], p + 9 + z, ⟨by omega, by rw [hrun1, hdT, if_neg hnb], by omega⟩, by omega, ?_⟩
            have hlen : (ts ++ [X]).length = ts.length + 1 := by simp
            have := Wk.gen (b := ⟨0, 0, none⟩) (l := [.cells 43 [.sl z (aBytes ((bs.drop (p + 9)).take z)) (.own 1 5), .lit (.bool (decide ((bs[p].toNat : Int) = 1))), .lit (.int .i64 (gN ((bs.drop (p + 1)).take 4) : Nat)), .lit (.int .i64 (bs[p + 5].toNat : Nat))]]) (l' := []) (lv := [2, 1]) (nx := 3) (gl := gl) (df := []) [] [some 2]
              (L := [(0, .sl bs.length (aBytes bs) .no), (4, .sl (ts.length + 1) (tcells (ts ++ [X])) (.own 0 43)), (5, .lit (.int .i64 ((p + 9 + z : Nat) : Int))), (6, .lit (.int .i64 ((i + 1 : Nat) : Int)))])
              (A := ?A3) (by simp) (by simp) List.nodup_nil (by simp) (.one _) (by simp) (.nil _) ?_
            · simpa [hlen] using this
            · refine VWL.all ?_
              simp only [VWL]
              refine ⟨.eq ?_ ?_, ?_, .eq ?_ ?_, .eq ?_ ?_, trivial⟩
              rotate_left 2
              · rw [tcells_snoc, hXc]
                simp [sy_seq, sy_region, sy_cons, sy_nil, sy_q, sy_n, sy_e, sy_gq, sy_put, sy_put0, sy_tmp, sy_int, sy_bool, sy_nilsl, sy_cond, sy_skip, sy_exit, sy_ret, sy_blockE, sy_blockR, QOp.sem, NOp.sem, EOp.sem, q, qg, qd, T, I, mv, sy_atL, sy_atL0, A0, cnd, rg, rsG, gdR, stripA, guardV, pickR, len_sl, len_ms, len_str, len_arr, unR, binR, ib_add, ib_sub, ib_mul, ib_quo, ib_rem, ib_eql, ib_neq, ib_lss, ib_leq, ib_gtr, ib_geq, is_shl, is_shr, bits64]
                exact .sl2 _ _ _ _ _ ((VWs.same (Cleans_tcells ts)).append (.cons _ _ _ _ (.sl _ _ _ _ (Cleans_aBytes _) trivial) (VWs.same (by simp [Cleans, Clean])))) ⟨rfl, by simp [ρG]⟩
              all_goals simp [sy_seq, sy_region, sy_cons, sy_nil, sy_q, sy_n, sy_e, sy_gq, sy_put, sy_put0, sy_tmp, sy_int, sy_bool, sy_nilsl, sy_cond, sy_skip, sy_exit, sy_ret, sy_blockE, sy_blockR, QOp.sem, NOp.sem, EOp.sem, q, qg, qd, T, I, mv, sy_atL, sy_atL0, A0, cnd, rg, rsG, gdR, stripA, guardV, pickR, len_sl, len_ms, len_str, len_arr, unR, binR, ib_add, ib_sub, ib_mul, ib_quo, ib_rem, ib_eql, ib_neq, ib_lss, ib_leq, ib_gtr, ib_geq, is_shl, is_shr, bits64, Clean, Cleans_aBytes]
              simp only [IntKind.wrap_i64]; omega
    · have hie : i = n := by omega
      subst hie
      simp [sy_seq, sy_region, sy_cons, sy_nil, sy_q, sy_n, sy_e, sy_gq, sy_put, sy_put0, sy_tmp, sy_int, sy_bool, sy_nilsl, sy_cond, sy_skip, sy_exit, sy_ret, sy_blockE, sy_blockR, QOp.sem, NOp.sem, EOp.sem, q, qg, qd, T, I, mv, sy_atL, sy_atL0, A0, cnd, rg, rsG, gdR, stripA, guardV, pickR, len_sl, len_ms, len_str, len_arr, unR, binR, ib_add, ib_sub, ib_mul, ib_quo, ib_rem, ib_eql, ib_neq, ib_lss, ib_leq, ib_gtr, ib_geq, is_shl, is_shr, bits64, sy_nili, sy_str, sy_nilp, sy_nilf, sy_nilmap, sy_slice, sy_draw, sy_dnil, sy_dcons, sy_dq, sy_dn, sy_de, sy_dgq, sy_rsA, sy_rechk0, sy_rechk, sy_call, sy_dcall, sy_panic, panicR, sy_hideE, sy_blockP, sy_after, sy_afterp, sy_afterD, sy_afterDp, nilcR, convR, bndV_nat, bndV_none, hn]
      refine ⟨fun h5 => ?_, fun h5 => ?_⟩
      · refine ret0 rfl rfl (by simp [retVs]) ?_
        simp [retVs, oneOr, sy_seq, sy_region, sy_cons, sy_nil, sy_q, sy_n, sy_e, sy_gq, sy_put, sy_put0, sy_tmp, sy_int, sy_bool, sy_nilsl, sy_cond, sy_skip, sy_exit, sy_ret, sy_blockE, sy_blockR, QOp.sem, NOp.sem, EOp.sem, q, qg, qd, T, I, mv, sy_atL, sy_atL0, A0, cnd, rg, rsG, gdR, stripA, guardV, pickR, len_sl, len_ms, len_str, len_arr, unR, binR, ib_add, ib_sub, ib_mul, ib_quo, ib_rem, ib_eql, ib_neq, ib_lss, ib_leq, ib_gtr, ib_geq, is_shl, is_shr, bits64, sy_nili, sy_str, sy_nilp, sy_nilf, sy_nilmap, sy_slice, sy_draw, sy_dnil, sy_dcons, sy_dq, sy_dn, sy_de, sy_dgq, sy_rsA, sy_rechk0, sy_rechk, sy_call, sy_dcall, sy_panic, panicR, sy_hideE, sy_blockP, sy_after, sy_afterp, sy_afterD, sy_afterDp, nilcR, convR, bndV_nat, bndV_none]
        refine err ?_
        unfold decAll
        rw [if_neg h6', if_neg (fun h => h hm), hn, hrun]
        have : 0 < (bs.drop p).length := by simp; omega
        simp only [this, if_true]
      · refine ret0 rfl rfl (by simp [retVs]) ?_
        simp [retVs, oneOr, sy_seq, sy_region, sy_cons, sy_nil, sy_q, sy_n, sy_e, sy_gq, sy_put, sy_put0, sy_tmp, sy_int, sy_bool, sy_nilsl, sy_cond, sy_skip, sy_exit, sy_ret, sy_blockE, sy_blockR, QOp.sem, NOp.sem, EOp.sem, q, qg, qd, T, I, mv, sy_atL, sy_atL0, A0, cnd, rg, rsG, gdR, stripA, guardV, pickR, len_sl, len_ms, len_str, len_arr, unR, binR, ib_add, ib_sub, ib_mul, ib_quo, ib_rem, ib_eql, ib_neq, ib_lss, ib_leq, ib_gtr, ib_geq, is_shl, is_shr, bits64, sy_nili, sy_str, sy_nilp, sy_nilf, sy_nilmap, sy_slice, sy_draw, sy_dnil, sy_dcons, sy_dq, sy_dn, sy_de, sy_dgq, sy_rsA, sy_rechk0, sy_rechk, sy_call, sy_dcall, sy_panic, panicR, sy_hideE, sy_blockP, sy_after, sy_afterp, sy_afterD, sy_afterDp, nilcR, convR, bndV_nat, bndV_none]
        have hd : decAll bs = .ok ts := by
          unfold decAll
          rw [if_neg h6', if_neg (fun h => h hm), hn, hrun]
          simp [h5]
        rw [hd]
        exact .tup _ _ (.cons _ _ _ _ (.sl _ _ _ _ (Cleans_tcells ts) trivial) (.cons _ _ _ _ (.same _ trivial) .nil))
end Go.Proofs.YtjleeecaebgblaaGreatDoor.AL.K
namespace Go.Proofs.YtjleeecaebgblaaGreatDoor.AL.K
open Go Go.Proofs.YtjleeecaebgblaaGreatDoor.AL Go.RowKit
variable {P : Program} {gl : Nat → Option (List AVal)}
theorem g8 : fns.get 8 = some c8 := by rfl
theorem tcells_drop : ∀ (ts : List Te) (i : Nat), (tcells ts).drop (i * 4) = tcells (ts.drop i)
  | ts, 0 => by simp
  | [], i + 1 => by simp [tcells]
  | x :: ts, i + 1 => by
    have := tcells_drop ts i
    simp only [tcells, List.flatMap_cons, List.drop_succ_cons] at this ⊢
    rw [List.drop_append]
    rw [List.drop_eq_nil_of_le (by rw [Te.cells_len]; omega), Te.cells_len, show (i + 1) * 4 - 4 = i * 4 by omega, this]
    rfl
theorem tcells_at {ts : List Te} {i : Nat} (h : i < ts.length) : (tcells ts).drop (i * 4) = .sl ts[i].bs.length (aBytes ts[i].bs) .no :: .lit (.bool ts[i].acc) :: .lit (.int .i64 ts[i].at_) :: .lit (.int .i64 ts[i].code) :: tcells (ts.drop (i + 1)) := by
  rw [tcells_drop, List.drop_eq_getElem_cons h]
  simp only [tcells, List.flatMap_cons, Te.cells]
  rfl
theorem same_ok (t : Tells P) (ts : List Te) (hl : ts.length ≤ 1000000) : Pure P gl 8 [.sl ts.length (tcells ts) .no, .sl ts.length (tcells ts) .no] (.lit (.bool true)) := by
  refine Pure.of t.m (t.f 8 (by decide) _ g8) (by simp [c8]) (by simp [Clean]) (by simp [Cleans, Clean, Cleans_tcells]) ?_
  simp only [c8]
  simp [sy_seq, sy_region, sy_cons, sy_nil, sy_q, sy_n, sy_e, sy_gq, sy_put, sy_put0, sy_tmp, sy_int, sy_bool, sy_nilsl, sy_cond, sy_skip, sy_exit, sy_ret, sy_blockE, sy_blockR, QOp.sem, NOp.sem, EOp.sem, q, qg, qd, T, I, mv, sy_atL, sy_atL0, A0, cnd, rg, rsG, gdR, stripA, guardV, pickR, len_sl, len_ms, len_str, len_arr, unR, binR, ib_add, ib_sub, ib_mul, ib_quo, ib_rem, ib_eql, ib_neq, ib_lss, ib_leq, ib_gtr, ib_geq, is_shl, is_shr, bits64, sy_nili, sy_str, sy_nilp, sy_nilf, sy_nilmap, sy_slice, sy_draw, sy_dnil, sy_dcons, sy_dq, sy_dn, sy_de, sy_dgq, sy_rsA, sy_rechk0, sy_rechk, sy_call, sy_dcall, sy_panic, panicR, sy_hideE, sy_blockP, sy_after, sy_afterp, sy_afterD, sy_afterDp, nilcR, convR, bndV_nat, bndV_none]
  rw [sy_block]
  refine sy_loopL (fun i => i ≤ ts.length) (fun i => [(0, .sl ts.length (tcells ts) .no), (1, .sl ts.length (tcells ts) .no), (5, .lit (.int .i64 (i : Nat)))]) (fun _ => ⟨[], [], 0, gl, []⟩) (fun i => ts.length - i) 0 (Nat.zero_le _) ?_ ?_
  · apply Wk.zero; simp only [VWL]; refine ⟨.eq ?_ ?_, .eq ?_ ?_, .eq ?_ ?_, trivial⟩ <;> simp [sy_seq, sy_region, sy_cons, sy_nil, sy_q, sy_n, sy_e, sy_gq, sy_put, sy_put0, sy_tmp, sy_int, sy_bool, sy_nilsl, sy_cond, sy_skip, sy_exit, sy_ret, sy_blockE, sy_blockR, QOp.sem, NOp.sem, EOp.sem, q, qg, qd, T, I, mv, sy_atL, sy_atL0, A0, cnd, rg, rsG, gdR, stripA, guardV, pickR, len_sl, len_ms, len_str, len_arr, unR, binR, ib_add, ib_sub, ib_mul, ib_quo, ib_rem, ib_eql, ib_neq, ib_lss, ib_leq, ib_gtr, ib_geq, is_shl, is_shr, bits64, Clean, Cleans_tcells]
  · intro i hi
    by_cases hlt : i < ts.length
    · have hd := tcells_at hlt
      have hbs := fun μ => (IsB.sl (row := none) ts[i].bs .no).bstr (μ := μ) .none
      simp [sy_seq, sy_region, sy_cons, sy_nil, sy_q, sy_n, sy_e, sy_gq, sy_put, sy_put0, sy_tmp, sy_int, sy_bool, sy_nilsl, sy_cond, sy_skip, sy_exit, sy_ret, sy_blockE, sy_blockR, QOp.sem, NOp.sem, EOp.sem, q, qg, qd, T, I, mv, sy_atL, sy_atL0, A0, cnd, rg, rsG, gdR, stripA, guardV, pickR, len_sl, len_ms, len_str, len_arr, unR, binR, ib_add, ib_sub, ib_mul, ib_quo, ib_rem, ib_eql, ib_neq, ib_lss, ib_leq, ib_gtr, ib_geq, is_shl, is_shr, bits64, sy_nili, sy_str, sy_nilp, sy_nilf, sy_nilmap, sy_slice, sy_draw, sy_dnil, sy_dcons, sy_dq, sy_dn, sy_de, sy_dgq, sy_rsA, sy_rechk0, sy_rechk, sy_call, sy_dcall, sy_panic, panicR, sy_hideE, sy_blockP, sy_after, sy_afterp, sy_afterD, sy_afterDp, nilcR, convR, bndV_nat, bndV_none, hlt]
      rw [sy_block]
      simp [sy_seq, sy_region, sy_cons, sy_nil, sy_q, sy_n, sy_e, sy_gq, sy_put, sy_put0, sy_tmp, sy_int, sy_bool, sy_nilsl, sy_cond, sy_skip, sy_exit, sy_ret, sy_blockE, sy_blockR, QOp.sem, NOp.sem, EOp.sem, q, qg, qd, T, I, mv, sy_atL, sy_atL0, A0, cnd, rg, rsG, gdR, stripA, guardV, pickR, len_sl, len_ms, len_str, len_arr, unR, binR, ib_add, ib_sub, ib_mul, ib_quo, ib_rem, ib_eql, ib_neq, ib_lss, ib_leq, ib_gtr, ib_geq, is_shl, is_shr, bits64, sy_nili, sy_str, sy_nilp, sy_nilf, sy_nilmap, sy_slice, sy_draw, sy_dnil, sy_dcons, sy_dq, sy_dn, sy_de, sy_dgq, sy_rsA, sy_rechk0, sy_rechk, sy_call, sy_dcall, sy_panic, panicR, sy_hideE, sy_blockP, sy_after, sy_afterp, sy_afterD, sy_afterDp, nilcR, convR, bndV_nat, bndV_none, sh_ptr, sh_ep, ld_ptr, ld_ep, lds_ptr, lds_ep, ptrS, ix_sl, hd, hbs, hlt, strBinR, eqlR]
      refine ⟨i + 1, hlt, by omega, ?_⟩
      apply Wk.zero; simp only [VWL]; refine ⟨.eq ?_ ?_, .eq ?_ ?_, .eq ?_ ?_, trivial⟩ <;> simp [sy_seq, sy_region, sy_cons, sy_nil, sy_q, sy_n, sy_e, sy_gq, sy_put, sy_put0, sy_tmp, sy_int, sy_bool, sy_nilsl, sy_cond, sy_skip, sy_exit, sy_ret, sy_blockE, sy_blockR, QOp.sem, NOp.sem, EOp.sem, q, qg, qd, T, I, mv, sy_atL, sy_atL0, A0, cnd, rg, rsG, gdR, stripA, guardV, pickR, len_sl, len_ms, len_str, len_arr, unR, binR, ib_add, ib_sub, ib_mul, ib_quo, ib_rem, ib_eql, ib_neq, ib_lss, ib_leq, ib_gtr, ib_geq, is_shl, is_shr, bits64, Clean, Cleans_tcells]
      simp only [IntKind.wrap_i64]; omega
    · have hie : i = ts.length := by omega
      subst hie
      simp [sy_seq, sy_region, sy_cons, sy_nil, sy_q, sy_n, sy_e, sy_gq, sy_put, sy_put0, sy_tmp, sy_int, sy_bool, sy_nilsl, sy_cond, sy_skip, sy_exit, sy_ret, sy_blockE, sy_blockR, QOp.sem, NOp.sem, EOp.sem, q, qg, qd, T, I, mv, sy_atL, sy_atL0, A0, cnd, rg, rsG, gdR, stripA, guardV, pickR, len_sl, len_ms, len_str, len_arr, unR, binR, ib_add, ib_sub, ib_mul, ib_quo, ib_rem, ib_eql, ib_neq, ib_lss, ib_leq, ib_gtr, ib_geq, is_shl, is_shr, bits64, sy_nili, sy_str, sy_nilp, sy_nilf, sy_nilmap, sy_slice, sy_draw, sy_dnil, sy_dcons, sy_dq, sy_dn, sy_de, sy_dgq, sy_rsA, sy_rechk0, sy_rechk, sy_call, sy_dcall, sy_panic, panicR, sy_hideE, sy_blockP, sy_after, sy_afterp, sy_afterD, sy_afterDp, nilcR, convR, bndV_nat, bndV_none]
      refine ret0 rfl rfl (by simp [retVs]) ?_
      simp [retVs, oneOr, sy_seq, sy_region, sy_cons, sy_nil, sy_q, sy_n, sy_e, sy_gq, sy_put, sy_put0, sy_tmp, sy_int, sy_bool, sy_nilsl, sy_cond, sy_skip, sy_exit, sy_ret, sy_blockE, sy_blockR, QOp.sem, NOp.sem, EOp.sem, q, qg, qd, T, I, mv, sy_atL, sy_atL0, A0, cnd, rg, rsG, gdR, stripA, guardV, pickR, len_sl, len_ms, len_str, len_arr, unR, binR, ib_add, ib_sub, ib_mul, ib_quo, ib_rem, ib_eql, ib_neq, ib_lss, ib_leq, ib_gtr, ib_geq, is_shl, is_shr, bits64, sy_nili, sy_str, sy_nilp, sy_nilf, sy_nilmap, sy_slice, sy_draw, sy_dnil, sy_dcons, sy_dq, sy_dn, sy_de, sy_dgq, sy_rsA, sy_rechk0, sy_rechk, sy_call, sy_dcall, sy_panic, panicR, sy_hideE, sy_blockP, sy_after, sy_afterp, sy_afterD, sy_afterDp, nilcR, convR, bndV_nat, bndV_none]
      exact .same _ (by simp [Clean])
end Go.Proofs.YtjleeecaebgblaaGreatDoor.AL.K
namespace Go.Proofs.YtjleeecaebgblaaGreatDoor.AL.K
open Go Go.Proofs.YtjleeecaebgblaaGreatDoor.AL Go.RowKit
variable {P : Program} {gl : Nat → Option (List AVal)}
theorem g3 : fns.get 3 = some c3 := by rfl
def ucells (zs : List Int) : List AVal := zs.map fun z => .lit (.int .u8 z)
theorem ucells_len (zs : List Int) : (ucells zs).length = zs.length := by simp [ucells]
theorem ucells_at {zs : List Int} {i : Nat} (h : i < zs.length) : (ucells zs).drop i = .lit (.int .u8 zs[i]) :: ucells (zs.drop (i + 1)) := by
  unfold ucells
  rw [← List.map_drop, List.drop_eq_getElem_cons h]; rfl
theorem ucells_set (zs : List Int) (i : Nat) (z : Int) (h : i < zs.length) : setAt (ucells zs) i [.lit (.int .u8 z)] = ucells (zs.set i z) := by
  simp only [setAt, ucells, List.length_singleton]
  rw [List.set_eq_take_append_cons_drop, if_pos h]
  simp [List.map_take, List.map_drop]
theorem Cleans_ucells {k s : Nat} (zs : List Int) : Cleans k s (ucells zs) := by
  rw [Cleans_iff]
  intro c hc
  obtain ⟨x, _, rfl⟩ := List.mem_map.1 hc
  simp [Clean]
theorem law_decodes (t : Tells P) (h32 : callable P 32 = true ∧ ∃ mu, mkFn P mu 32 = some c32s) (hk : ∀ μ : AMem, μ.gl = gl → calls P 5 [] μ (fun o μ' => o = .ret (.lit (.bool true)) ∧ μ' = μ)) (bs : List UInt8) :
    calls P 3 [.sl bs.length (aBytes bs) .no] (AMem.none gl) (fun o μ' => o = .ret (.lit (.bool true))) := by
  refine calls.go t.m (t.f 3 (by decide) _ g3) (by simp [c3]) fun R hRR hf hcl => ?_
  have fin : ∀ {A : ATmps} {l : List ABlk} {lv : List Nat} {nx : Nat}, A 2 = .lit (.bool true) → retK P ⟨([] : List ABlk).length, 0, none⟩ [.tmp 2] R A ⟨l, lv, nx, gl, []⟩ := by
    intro A l lv nx h2
    refine ⟨by simp [retVs], .inl ?_⟩
    simp only [retVs, oneOr, h2]
    exact hRR _ _ _ _ _ _ rfl
  simp only [c3]
  simp [sy_seq, sy_region, sy_cons, sy_nil, sy_q, sy_n, sy_e, sy_gq, sy_put, sy_put0, sy_tmp, sy_int, sy_bool, sy_nilsl, sy_cond, sy_skip, sy_exit, sy_ret, sy_blockE, sy_blockR, QOp.sem, NOp.sem, EOp.sem, q, qg, qd, T, I, mv, sy_atL, sy_atL0, A0, cnd, rg, rsG, gdR, stripA, guardV, pickR, len_sl, len_ms, len_str, len_arr, unR, binR, ib_add, ib_sub, ib_mul, ib_quo, ib_rem, ib_eql, ib_neq, ib_lss, ib_leq, ib_gtr, ib_geq, is_shl, is_shr, bits64, sy_nili, sy_str, sy_nilp, sy_nilf, sy_nilmap, sy_slice, sy_draw, sy_dnil, sy_dcons, sy_dq, sy_dn, sy_de, sy_dgq, sy_rsA, sy_rechk0, sy_rechk, sy_call, sy_dcall, sy_panic, panicR, sy_hideE, sy_blockP, sy_after, sy_afterp, sy_afterD, sy_afterDp, nilcR, convR, bndV_nat, bndV_none]
  refine ⟨fun h6 => ?_, fun h6 => ?_⟩
  · refine (hk _ rfl).ret ?_
    simp [sy_seq, sy_region, sy_cons, sy_nil, sy_q, sy_n, sy_e, sy_gq, sy_put, sy_put0, sy_tmp, sy_int, sy_bool, sy_nilsl, sy_cond, sy_skip, sy_exit, sy_ret, sy_blockE, sy_blockR, QOp.sem, NOp.sem, EOp.sem, q, qg, qd, T, I, mv, sy_atL, sy_atL0, A0, cnd, rg, rsG, gdR, stripA, guardV, pickR, len_sl, len_ms, len_str, len_arr, unR, binR, ib_add, ib_sub, ib_mul, ib_quo, ib_rem, ib_eql, ib_neq, ib_lss, ib_leq, ib_gtr, ib_geq, is_shl, is_shr, bits64, sy_nili, sy_str, sy_nilp, sy_nilf, sy_nilmap, sy_slice, sy_draw, sy_dnil, sy_dcons, sy_dq, sy_dn, sy_de, sy_dgq, sy_rsA, sy_rechk0, sy_rechk, sy_call, sy_dcall, sy_panic, panicR, sy_hideE, sy_blockP, sy_after, sy_afterp, sy_afterD, sy_afterDp, nilcR, convR, bndV_nat, bndV_none]
    exact fin (by simp [sy_seq, sy_region, sy_cons, sy_nil, sy_q, sy_n, sy_e, sy_gq, sy_put, sy_put0, sy_tmp, sy_int, sy_bool, sy_nilsl, sy_cond, sy_skip, sy_exit, sy_ret, sy_blockE, sy_blockR, QOp.sem, NOp.sem, EOp.sem, q, qg, qd, T, I, mv, sy_atL, sy_atL0, A0, cnd, rg, rsG, gdR, stripA, guardV, pickR, len_sl, len_ms, len_str, len_arr, unR, binR, ib_add, ib_sub, ib_mul, ib_quo, ib_rem, ib_eql, ib_neq, ib_lss, ib_leq, ib_gtr, ib_geq, is_shl, is_shr, bits64])
  have h6' : bs.length ≤ 600 := by omega
  obtain ⟨ts, c, hd, htl⟩ : ∃ ts c, decV (decAll bs) = .tup [.sl ts.length (tcells ts) .no, .lit (.int .i64 c)] ∧ ts.length ≤ 1000000 := by
    cases h : decAll bs with
    | error c => exact ⟨[], c, rfl, by simp⟩
    | ok ts =>
      refine ⟨ts, 0, rfl, ?_⟩
      unfold decAll at h
      split at h
      · cases h
      split at h
      · cases h
      split at h
      · cases h
      · rename_i ts' r hr
        split at h <;> cases h
        have := runT_len hr
        have := gN_lt (bs.drop 4) 2
        omega
  have hdec := rdecode_ok (gl := gl) t bs (by omega)
  rw [hd] at hdec
  have hsame := same_ok (gl := gl) t ts htl
  rcases Nat.eq_zero_or_pos bs.length with h0 | h0
  · have hbs := List.length_eq_zero_iff.1 h0
    subst hbs
    simp [appendMR, asrc, fullS, aBytes]
    refine (decode_ok (row := none) t h32 (v := .sl 0 [] .full) (bs := []) (.sl [] .full) .none (by simp)).mono ?_
    rintro o μ' ⟨rfl, rfl⟩
    rw [hd]
    simp [sy_seq, sy_region, sy_cons, sy_nil, sy_q, sy_n, sy_e, sy_gq, sy_put, sy_put0, sy_tmp, sy_int, sy_bool, sy_nilsl, sy_cond, sy_skip, sy_exit, sy_ret, sy_blockE, sy_blockR, QOp.sem, NOp.sem, EOp.sem, q, qg, qd, T, I, mv, sy_atL, sy_atL0, A0, cnd, rg, rsG, gdR, stripA, guardV, pickR, len_sl, len_ms, len_str, len_arr, unR, binR, ib_add, ib_sub, ib_mul, ib_quo, ib_rem, ib_eql, ib_neq, ib_lss, ib_leq, ib_gtr, ib_geq, is_shl, is_shr, bits64, sy_nili, sy_str, sy_nilp, sy_nilf, sy_nilmap, sy_slice, sy_draw, sy_dnil, sy_dcons, sy_dq, sy_dn, sy_de, sy_dgq, sy_rsA, sy_rechk0, sy_rechk, sy_call, sy_dcall, sy_panic, panicR, sy_hideE, sy_blockP, sy_after, sy_afterp, sy_afterD, sy_afterDp, nilcR, convR, bndV_nat, bndV_none, extractR]
    refine (hdec _ rfl).ret ?_
    simp [sy_seq, sy_region, sy_cons, sy_nil, sy_q, sy_n, sy_e, sy_gq, sy_put, sy_put0, sy_tmp, sy_int, sy_bool, sy_nilsl, sy_cond, sy_skip, sy_exit, sy_ret, sy_blockE, sy_blockR, QOp.sem, NOp.sem, EOp.sem, q, qg, qd, T, I, mv, sy_atL, sy_atL0, A0, cnd, rg, rsG, gdR, stripA, guardV, pickR, len_sl, len_ms, len_str, len_arr, unR, binR, ib_add, ib_sub, ib_mul, ib_quo, ib_rem, ib_eql, ib_neq, ib_lss, ib_leq, ib_gtr, ib_geq, is_shl, is_shr, bits64, sy_nili, sy_str, sy_nilp, sy_nilf, sy_nilmap, sy_slice, sy_draw, sy_dnil, sy_dcons, sy_dq, sy_dn, sy_de, sy_dgq, sy_rsA, sy_rechk0, sy_rechk, sy_call, sy_dcall, sy_panic, panicR, sy_hideE, sy_blockP, sy_after, sy_afterp, sy_afterD, sy_afterDp, nilcR, convR, bndV_nat, bndV_none, extractR]
    rw [sy_block]
    refine .inl ⟨1, ?_⟩
    simp [rounds, sy_seq, sy_region, sy_cons, sy_nil, sy_q, sy_n, sy_e, sy_gq, sy_put, sy_put0, sy_tmp, sy_int, sy_bool, sy_nilsl, sy_cond, sy_skip, sy_exit, sy_ret, sy_blockE, sy_blockR, QOp.sem, NOp.sem, EOp.sem, q, qg, qd, T, I, mv, sy_atL, sy_atL0, A0, cnd, rg, rsG, gdR, stripA, guardV, pickR, len_sl, len_ms, len_str, len_arr, unR, binR, ib_add, ib_sub, ib_mul, ib_quo, ib_rem, ib_eql, ib_neq, ib_lss, ib_leq, ib_gtr, ib_geq, is_shl, is_shr, bits64, sy_nili, sy_str, sy_nilp, sy_nilf, sy_nilmap, sy_slice, sy_draw, sy_dnil, sy_dcons, sy_dq, sy_dn, sy_de, sy_dgq, sy_rsA, sy_rechk0, sy_rechk, sy_call, sy_dcall, sy_panic, panicR, sy_hideE, sy_blockP, sy_after, sy_afterp, sy_afterD, sy_afterDp, nilcR, convR, bndV_nat, bndV_none]
    (refine (hsame _ rfl).ret ?_; simp [sy_seq, sy_region, sy_cons, sy_nil, sy_q, sy_n, sy_e, sy_gq, sy_put, sy_put0, sy_tmp, sy_int, sy_bool, sy_nilsl, sy_cond, sy_skip, sy_exit, sy_ret, sy_blockE, sy_blockR, QOp.sem, NOp.sem, EOp.sem, q, qg, qd, T, I, mv, sy_atL, sy_atL0, A0, cnd, rg, rsG, gdR, stripA, guardV, pickR, len_sl, len_ms, len_str, len_arr, unR, binR, ib_add, ib_sub, ib_mul, ib_quo, ib_rem, ib_eql, ib_neq, ib_lss, ib_leq, ib_gtr, ib_geq, is_shl, is_shr, bits64, sy_nili, sy_str, sy_nilp, sy_nilf, sy_nilmap, sy_slice, sy_draw, sy_dnil, sy_dcons, sy_dq, sy_dn, sy_de, sy_dgq, sy_rsA, sy_rechk0, sy_rechk, sy_call, sy_dcall, sy_panic, panicR, sy_hideE, sy_blockP, sy_after, sy_afterp, sy_afterD, sy_afterDp, nilcR, convR, bndV_nat, bndV_none, sy_gcall]; refine .inl ⟨.lit (.bool true), trivial, hk _ rfl, ?_⟩; simp [sy_seq, sy_region, sy_cons, sy_nil, sy_q, sy_n, sy_e, sy_gq, sy_put, sy_put0, sy_tmp, sy_int, sy_bool, sy_nilsl, sy_cond, sy_skip, sy_exit, sy_ret, sy_blockE, sy_blockR, QOp.sem, NOp.sem, EOp.sem, q, qg, qd, T, I, mv, sy_atL, sy_atL0, A0, cnd, rg, rsG, gdR, stripA, guardV, pickR, len_sl, len_ms, len_str, len_arr, unR, binR, ib_add, ib_sub, ib_mul, ib_quo, ib_rem, ib_eql, ib_neq, ib_lss, ib_leq, ib_gtr, ib_geq, is_shl, is_shr, bits64, sy_nili, sy_str, sy_nilp, sy_nilf, sy_nilmap, sy_slice, sy_draw, sy_dnil, sy_dcons, sy_dq, sy_dn, sy_de, sy_dgq, sy_rsA, sy_rechk0, sy_rechk, sy_call, sy_dcall, sy_panic, panicR, sy_hideE, sy_blockP, sy_after, sy_afterp, sy_afterD, sy_afterDp, nilcR, convR, bndV_nat, bndV_none]; exact fin (by simp [sy_seq, sy_region, sy_cons, sy_nil, sy_q, sy_n, sy_e, sy_gq, sy_put, sy_put0, sy_tmp, sy_int, sy_bool, sy_nilsl, sy_cond, sy_skip, sy_exit, sy_ret, sy_blockE, sy_blockR, QOp.sem, NOp.sem, EOp.sem, q, qg, qd, T, I, mv, sy_atL, sy_atL0, A0, cnd, rg, rsG, gdR, stripA, guardV, pickR, len_sl, len_ms, len_str, len_arr, unR, binR, ib_add, ib_sub, ib_mul, ib_quo, ib_rem, ib_eql, ib_neq, ib_lss, ib_leq, ib_gtr, ib_geq, is_shl, is_shr, bits64]))
  · have hne : bs.length ≠ 0 := by omega
    simp [appendMR, asrc, fullS, hne, aBytes_length, rowCs]
    refine ⟨by omega, ?_⟩
    refine (decode_ok (row := some (0, bs)) t h32 (v := .ms 0 0 bs.length .row) (bs := bs) ?_ ?_ (by omega)).mono ?_
    · have := IsB.ms (row := some (0, bs)) 0 0 bs.length bs .row rfl (by omega)
      simpa using this
    · intro id l e; cases e; simp [rowCs]
    rintro o μ' ⟨rfl, rfl⟩
    rw [hd]
    simp [sy_seq, sy_region, sy_cons, sy_nil, sy_q, sy_n, sy_e, sy_gq, sy_put, sy_put0, sy_tmp, sy_int, sy_bool, sy_nilsl, sy_cond, sy_skip, sy_exit, sy_ret, sy_blockE, sy_blockR, QOp.sem, NOp.sem, EOp.sem, q, qg, qd, T, I, mv, sy_atL, sy_atL0, A0, cnd, rg, rsG, gdR, stripA, guardV, pickR, len_sl, len_ms, len_str, len_arr, unR, binR, ib_add, ib_sub, ib_mul, ib_quo, ib_rem, ib_eql, ib_neq, ib_lss, ib_leq, ib_gtr, ib_geq, is_shl, is_shr, bits64, sy_nili, sy_str, sy_nilp, sy_nilf, sy_nilmap, sy_slice, sy_draw, sy_dnil, sy_dcons, sy_dq, sy_dn, sy_de, sy_dgq, sy_rsA, sy_rechk0, sy_rechk, sy_call, sy_dcall, sy_panic, panicR, sy_hideE, sy_blockP, sy_after, sy_afterp, sy_afterD, sy_afterDp, nilcR, convR, bndV_nat, bndV_none, extractR]
    refine (hdec _ rfl).ret ?_
    simp [sy_seq, sy_region, sy_cons, sy_nil, sy_q, sy_n, sy_e, sy_gq, sy_put, sy_put0, sy_tmp, sy_int, sy_bool, sy_nilsl, sy_cond, sy_skip, sy_exit, sy_ret, sy_blockE, sy_blockR, QOp.sem, NOp.sem, EOp.sem, q, qg, qd, T, I, mv, sy_atL, sy_atL0, A0, cnd, rg, rsG, gdR, stripA, guardV, pickR, len_sl, len_ms, len_str, len_arr, unR, binR, ib_add, ib_sub, ib_mul, ib_quo, ib_rem, ib_eql, ib_neq, ib_lss, ib_leq, ib_gtr, ib_geq, is_shl, is_shr, bits64, sy_nili, sy_str, sy_nilp, sy_nilf, sy_nilmap, sy_slice, sy_draw, sy_dnil, sy_dcons, sy_dq, sy_dn, sy_de, sy_dgq, sy_rsA, sy_rechk0, sy_rechk, sy_call, sy_dcall, sy_panic, panicR, sy_hideE, sy_blockP, sy_after, sy_afterp, sy_afterD, sy_afterDp, nilcR, convR, bndV_nat, bndV_none, extractR]
    rw [sy_block]
    refine sy_loopL (α := Nat × List Int) (fun x => x.1 ≤ bs.length ∧ x.2.length = bs.length)
      (fun x => [(3, .ms 0 0 bs.length .row), (4, .sl ts.length (tcells ts) .no), (5, .lit (.int .i64 c)), (6, .sl ts.length (tcells ts) .no), (7, .lit (.int .i64 c)), (8, .lit (.int .i64 (x.1 : Nat)))])
      (fun x => ⟨[.row 5 (ucells x.2)], [], 0, gl, []⟩) (fun x => bs.length - x.1) (0, bs.map fun b => (b.toNat : Int)) ⟨Nat.zero_le _, by simp⟩ ?_ ?_
    · have hu : ucells (bs.map fun b => (b.toNat : Int)) = aBytes bs := by simp [ucells, aBytes]
      simp only [hu]
      apply Wk.keep (by simp) (by simp [CleanB, Cleans_aBytes]) (by simp) List.nodup_nil
      simp only [VWL]
      refine ⟨.eq ?_ ?_, .eq ?_ ?_, .eq ?_ ?_, .eq ?_ ?_, .eq ?_ ?_, .eq ?_ ?_, trivial⟩ <;> simp [sy_seq, sy_region, sy_cons, sy_nil, sy_q, sy_n, sy_e, sy_gq, sy_put, sy_put0, sy_tmp, sy_int, sy_bool, sy_nilsl, sy_cond, sy_skip, sy_exit, sy_ret, sy_blockE, sy_blockR, QOp.sem, NOp.sem, EOp.sem, q, qg, qd, T, I, mv, sy_atL, sy_atL0, A0, cnd, rg, rsG, gdR, stripA, guardV, pickR, len_sl, len_ms, len_str, len_arr, unR, binR, ib_add, ib_sub, ib_mul, ib_quo, ib_rem, ib_eql, ib_neq, ib_lss, ib_leq, ib_gtr, ib_geq, is_shl, is_shr, bits64, Clean, Cleans_tcells]
    · rintro ⟨i, zs⟩ ⟨hi, hz⟩
      simp only at hi hz
      by_cases hlt : i < bs.length
      · simp [sy_seq, sy_region, sy_cons, sy_nil, sy_q, sy_n, sy_e, sy_gq, sy_put, sy_put0, sy_tmp, sy_int, sy_bool, sy_nilsl, sy_cond, sy_skip, sy_exit, sy_ret, sy_blockE, sy_blockR, QOp.sem, NOp.sem, EOp.sem, q, qg, qd, T, I, mv, sy_atL, sy_atL0, A0, cnd, rg, rsG, gdR, stripA, guardV, pickR, len_sl, len_ms, len_str, len_arr, unR, binR, ib_add, ib_sub, ib_mul, ib_quo, ib_rem, ib_eql, ib_neq, ib_lss, ib_leq, ib_gtr, ib_geq, is_shl, is_shr, bits64, sy_nili, sy_str, sy_nilp, sy_nilf, sy_nilmap, sy_slice, sy_draw, sy_dnil, sy_dcons, sy_dq, sy_dn, sy_de, sy_dgq, sy_rsA, sy_rechk0, sy_rechk, sy_call, sy_dcall, sy_panic, panicR, sy_hideE, sy_blockP, sy_after, sy_afterp, sy_afterD, sy_afterDp, nilcR, convR, bndV_nat, bndV_none, hlt]
        rw [sy_block]
        have ha := ucells_at (zs := zs) (i := i) (by omega)
        simp [sy_seq, sy_region, sy_cons, sy_nil, sy_q, sy_n, sy_e, sy_gq, sy_put, sy_put0, sy_tmp, sy_int, sy_bool, sy_nilsl, sy_cond, sy_skip, sy_exit, sy_ret, sy_blockE, sy_blockR, QOp.sem, NOp.sem, EOp.sem, q, qg, qd, T, I, mv, sy_atL, sy_atL0, A0, cnd, rg, rsG, gdR, stripA, guardV, pickR, len_sl, len_ms, len_str, len_arr, unR, binR, ib_add, ib_sub, ib_mul, ib_quo, ib_rem, ib_eql, ib_neq, ib_lss, ib_leq, ib_gtr, ib_geq, is_shl, is_shr, bits64, sy_nili, sy_str, sy_nilp, sy_nilf, sy_nilmap, sy_slice, sy_draw, sy_dnil, sy_dcons, sy_dq, sy_dn, sy_de, sy_dgq, sy_rsA, sy_rechk0, sy_rechk, sy_call, sy_dcall, sy_panic, panicR, sy_hideE, sy_blockP, sy_after, sy_afterp, sy_afterD, sy_afterDp, nilcR, convR, bndV_nat, bndV_none, sh_ptr, sh_ep, ld_ptr, ld_ep, lds_ptr, lds_ep, ptrS, ix_ms, hlt, ha, ucells_len, hz, storeR]
        simp only [vr_int, on_int, List.length_cons, List.length_nil, List.mem_singleton, true_and, forall_eq, and_true]
        refine ⟨by omega, i + 1, zs.set i (IntKind.u8.wrap (zs[i] + 1)), ⟨hlt, by simp [hz]⟩, by omega, ?_⟩
        rw [ucells_set zs i _ (by omega)]
        apply Wk.keep (by simp) (by simp [CleanB, Cleans_ucells]) (by simp) List.nodup_nil
        simp only [VWL]
        refine ⟨.eq ?_ ?_, .eq ?_ ?_, .eq ?_ ?_, .eq ?_ ?_, .eq ?_ ?_, .eq ?_ ?_, trivial⟩ <;> simp [sy_seq, sy_region, sy_cons, sy_nil, sy_q, sy_n, sy_e, sy_gq, sy_put, sy_put0, sy_tmp, sy_int, sy_bool, sy_nilsl, sy_cond, sy_skip, sy_exit, sy_ret, sy_blockE, sy_blockR, QOp.sem, NOp.sem, EOp.sem, q, qg, qd, T, I, mv, sy_atL, sy_atL0, A0, cnd, rg, rsG, gdR, stripA, guardV, pickR, len_sl, len_ms, len_str, len_arr, unR, binR, ib_add, ib_sub, ib_mul, ib_quo, ib_rem, ib_eql, ib_neq, ib_lss, ib_leq, ib_gtr, ib_geq, is_shl, is_shr, bits64, Clean, Cleans_tcells]
        simp only [IntKind.wrap_i64]; omega
      · have hie : i = bs.length := by omega
        subst hie
        simp [sy_seq, sy_region, sy_cons, sy_nil, sy_q, sy_n, sy_e, sy_gq, sy_put, sy_put0, sy_tmp, sy_int, sy_bool, sy_nilsl, sy_cond, sy_skip, sy_exit, sy_ret, sy_blockE, sy_blockR, QOp.sem, NOp.sem, EOp.sem, q, qg, qd, T, I, mv, sy_atL, sy_atL0, A0, cnd, rg, rsG, gdR, stripA, guardV, pickR, len_sl, len_ms, len_str, len_arr, unR, binR, ib_add, ib_sub, ib_mul, ib_quo, ib_rem, ib_eql, ib_neq, ib_lss, ib_leq, ib_gtr, ib_geq, is_shl, is_shr, bits64, sy_nili, sy_str, sy_nilp, sy_nilf, sy_nilmap, sy_slice, sy_draw, sy_dnil, sy_dcons, sy_dq, sy_dn, sy_de, sy_dgq, sy_rsA, sy_rechk0, sy_rechk, sy_call, sy_dcall, sy_panic, panicR, sy_hideE, sy_blockP, sy_after, sy_afterp, sy_afterD, sy_afterDp, nilcR, convR, bndV_nat, bndV_none]
        (refine (hsame _ rfl).ret ?_; simp [sy_seq, sy_region, sy_cons, sy_nil, sy_q, sy_n, sy_e, sy_gq, sy_put, sy_put0, sy_tmp, sy_int, sy_bool, sy_nilsl, sy_cond, sy_skip, sy_exit, sy_ret, sy_blockE, sy_blockR, QOp.sem, NOp.sem, EOp.sem, q, qg, qd, T, I, mv, sy_atL, sy_atL0, A0, cnd, rg, rsG, gdR, stripA, guardV, pickR, len_sl, len_ms, len_str, len_arr, unR, binR, ib_add, ib_sub, ib_mul, ib_quo, ib_rem, ib_eql, ib_neq, ib_lss, ib_leq, ib_gtr, ib_geq, is_shl, is_shr, bits64, sy_nili, sy_str, sy_nilp, sy_nilf, sy_nilmap, sy_slice, sy_draw, sy_dnil, sy_dcons, sy_dq, sy_dn, sy_de, sy_dgq, sy_rsA, sy_rechk0, sy_rechk, sy_call, sy_dcall, sy_panic, panicR, sy_hideE, sy_blockP, sy_after, sy_afterp, sy_afterD, sy_afterDp, nilcR, convR, bndV_nat, bndV_none, sy_gcall]; refine .inl ⟨.lit (.bool true), trivial, hk _ rfl, ?_⟩; simp [sy_seq, sy_region, sy_cons, sy_nil, sy_q, sy_n, sy_e, sy_gq, sy_put, sy_put0, sy_tmp, sy_int, sy_bool, sy_nilsl, sy_cond, sy_skip, sy_exit, sy_ret, sy_blockE, sy_blockR, QOp.sem, NOp.sem, EOp.sem, q, qg, qd, T, I, mv, sy_atL, sy_atL0, A0, cnd, rg, rsG, gdR, stripA, guardV, pickR, len_sl, len_ms, len_str, len_arr, unR, binR, ib_add, ib_sub, ib_mul, ib_quo, ib_rem, ib_eql, ib_neq, ib_lss, ib_leq, ib_gtr, ib_geq, is_shl, is_shr, bits64, sy_nili, sy_str, sy_nilp, sy_nilf, sy_nilmap, sy_slice, sy_draw, sy_dnil, sy_dcons, sy_dq, sy_dn, sy_de, sy_dgq, sy_rsA, sy_rechk0, sy_rechk, sy_call, sy_dcall, sy_panic, panicR, sy_hideE, sy_blockP, sy_after, sy_afterp, sy_afterD, sy_afterDp, nilcR, convR, bndV_nat, bndV_none]; exact fin (by simp [sy_seq, sy_region, sy_cons, sy_nil, sy_q, sy_n, sy_e, sy_gq, sy_put, sy_put0, sy_tmp, sy_int, sy_bool, sy_nilsl, sy_cond, sy_skip, sy_exit, sy_ret, sy_blockE, sy_blockR, QOp.sem, NOp.sem, EOp.sem, q, qg, qd, T, I, mv, sy_atL, sy_atL0, A0, cnd, rg, rsG, gdR, stripA, guardV, pickR, len_sl, len_ms, len_str, len_arr, unR, binR, ib_add, ib_sub, ib_mul, ib_quo, ib_rem, ib_eql, ib_neq, ib_lss, ib_leq, ib_gtr, ib_geq, is_shl, is_shr, bits64]))
end Go.Proofs.YtjleeecaebgblaaGreatDoor.AL.K
