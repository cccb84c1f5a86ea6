/- Encoding: the walk. -/
import Derived.Test.YtjleeecaebgblaaGreatDoorL2
set_option linter.all false
namespace Go.Proofs.YtjleeecaebgblaaGreatDoor.AL.K
open Go Go.Proofs.YtjleeecaebgblaaGreatDoor.AL Go.RowKit
variable {P : Program} {gl : Nat → Option (List AVal)}
theorem g25 : fns.get 25 = some c25 := by rfl
def beB (v i : Nat) : UInt8 := UInt8.ofNat (v / 256 ^ i)
/-- A number of bytes of a number, the more significant one first. -/
def be (n v : Nat) : List UInt8 := (List.range n).map fun k => beB v (n - 1 - k)
theorem be_len (n v : Nat) : (be n v).length = n := by simp [be]
theorem be_take {n v k : Nat} (h : k < n) : (be n v).take (k + 1) = (be n v).take k ++ [beB v (n - 1 - k)] := by
  rw [List.take_succ_eq_append_getElem (by rw [be_len]; exact h)]
  simp [be]
theorem byteI {v j : Nat} {z : Int} (hz : z = (j : Nat)) (hj : j ≤ 7) : IntKind.u8.wrap ((v : Int).fdiv (2 ^ (min (8 * z).toNat 64))) = ((beB v j).toNat : Int) := by
  subst hz
  have e1 : min (8 * (j : Int)).toNat 64 = 8 * j := by omega
  have e2 : (2 : Int) ^ (8 * j) = ((256 ^ j : Nat) : Int) := by
    rw [Int.pow_mul]; norm_cast
  rw [e1, e2, Int.fdiv_eq_ediv_of_nonneg _ (Int.natCast_nonneg _), ← Int.natCast_ediv, IntKind.wrap_u8, beB, UInt8.toNat_ofNat']
  omega
theorem put_ok (t : Tells P) {blks : List ABlk} {lv : List Nat} {nx : Nat} {df : List ADef} {bb : List UInt8} {tk : Tk} {v n : Nat} (hc : CanApp 5 lv tk) (hn : 1 ≤ n ∧ n ≤ 8) (hv : v < 1099511627776) (hb : bb.length ≤ 1099511627776) :
    calls P 25 [.sl bb.length (aBytes bb) tk, .lit (.int .i64 (v : Nat)), .lit (.int .i64 (n : Nat))] ⟨blks, lv, nx, gl, df⟩ (fun o μ' => o = .ret (.sl (bb.length + n) (aBytes (bb ++ be n v)) (.own nx 5)) ∧ μ' = ⟨blks, appLv lv tk ++ [nx], nx + 1, gl, df⟩) := by
  refine calls.go t.m (t.f 25 (by decide) _ g25) (by simp [c25]) fun R hRR hf hcl => ?_
  have hnl : ¬ nx ∈ lv := fun h => Nat.lt_irrefl _ (hf.ll nx h)
  have hsub : ∀ r ∈ appLv lv tk, r ∈ lv := by
    intro r hr
    cases tk <;> simp only [appLv] at hr <;> first | exact hr | exact List.mem_of_mem_erase hr
  have hnd0 : (appLv lv tk).Nodup := by
    cases tk <;> simp only [appLv] <;> first | exact hf.nd | exact hf.nd.erase _
  have hlv0 : ∀ r ∈ appLv lv tk, r < nx ∧ r ∈ lv := fun r hr => ⟨hf.ll r (hsub r hr), hsub r hr⟩
  simp only [c25]
  simp [sy_seq, sy_region, sy_cons, sy_nil, sy_q, sy_n, sy_e, sy_gq, sy_put, sy_put0, sy_tmp, sy_int, sy_bool, sy_nilsl, sy_cond, sy_skip, sy_exit, sy_ret, sy_blockE, sy_blockR, QOp.sem, NOp.sem, EOp.sem, q, qg, qd, T, I, mv, sy_atL, sy_atL0, A0, cnd, rg, rsG, gdR, stripA, guardV, pickR, len_sl, len_ms, len_str, len_arr, unR, binR, ib_add, ib_sub, ib_mul, ib_quo, ib_rem, ib_eql, ib_neq, ib_lss, ib_leq, ib_gtr, ib_geq, is_shl, is_shr, bits64, sy_nili, sy_str, sy_nilp, sy_nilf, sy_nilmap, sy_slice, sy_draw, sy_dnil, sy_dcons, sy_dq, sy_dn, sy_de, sy_dgq, sy_rsA, sy_rechk0, sy_rechk, sy_call, sy_dcall, sy_panic, panicR, sy_hideE, sy_blockP, sy_after, sy_afterp, sy_afterD, sy_afterDp, nilcR, convR, bndV_nat, bndV_none]
  rw [sy_block]
  refine sy_loopL (α := Nat × Int) (fun x => x.1 ≤ n ∧ x.2 = (n : Int) - 1 - (x.1 : Int)) (fun x => [(0, .sl (bb.length + x.1) (aBytes (bb ++ (be n v).take x.1)) (.own nx 5)), (1, .lit (.int .i64 (v : Nat))), (7, .lit (.int .i64 x.2))])
    (fun _ => ⟨blks, appLv lv tk ++ [nx], nx + 1, gl, []⟩) (fun x => n - x.1) (0, (n : Int) - 1) ⟨Nat.zero_le _, by simp⟩ ?_ ?_
  · obtain ⟨q0, hq, hw⟩ : ∃ q0 : Option Nat, (∀ r, some r ∈ [q0] → r ∈ lv ∧ (nx ≤ r ∨ r ∉ appLv lv tk)) ∧ TkW (nx + 1) (ρG nx [q0]) tk (.own nx 5) := by
      cases tk with
      | no => exact hc.elim
      | row => exact hc.elim
      | full => exact ⟨none, by simp, by simp [TkW, ρG]⟩
      | own s e =>
        obtain ⟨rfl, hs⟩ := hc
        refine ⟨some s, ?_, by simp [TkW, ρG]⟩
        intro r hr
        simp at hr; subst hr
        exact ⟨hs, .inr (by simp only [appLv]; exact hf.nd.not_mem_erase)⟩
    have := Wk.gen (b := ⟨blks.length, nx, none⟩) (l := blks) (l' := blks) (lv := lv) (nx := nx) (gl := gl) (df := []) (appLv lv tk) [q0] (L := [(0, .sl bb.length (aBytes bb) (.own nx 5)), (1, .lit (.int .i64 (v : Nat))), (7, .lit (.int .i64 ((n : Int) - 1)))])
      (A := ?A) (Nat.le_refl _) hlv0 hnd0 hq (.one _) (by simp) (by have := BWs_same (k := blks.length) (s := nx) (nx := nx + 1) (ρ := ρG nx [q0]) (l := blks) (r := []) hf.wf.blk; simpa using this) ?_
    · simpa using this
    · refine VWL.all ?_
      simp only [VWL]
      refine ⟨.sl' (tk := tk) ?_ ?_ hw, .eq ?_ ?_, .eq ?_ ?_, trivial⟩ <;> simp [sy_seq, sy_region, sy_cons, sy_nil, sy_q, sy_n, sy_e, sy_gq, sy_put, sy_put0, sy_tmp, sy_int, sy_bool, sy_nilsl, sy_cond, sy_skip, sy_exit, sy_ret, sy_blockE, sy_blockR, QOp.sem, NOp.sem, EOp.sem, q, qg, qd, T, I, mv, sy_atL, sy_atL0, A0, cnd, rg, rsG, gdR, stripA, guardV, pickR, len_sl, len_ms, len_str, len_arr, unR, binR, ib_add, ib_sub, ib_mul, ib_quo, ib_rem, ib_eql, ib_neq, ib_lss, ib_leq, ib_gtr, ib_geq, is_shl, is_shr, bits64, Clean, Cleans_aBytes]
      simp only [IntKind.wrap_i64]; omega
  · rintro ⟨k, z⟩ ⟨hk, hz⟩
    simp only at hk hz
    by_cases hlt : k < n
    · have hz0 : 0 ≤ z := by omega
      have w8 : IntKind.i64.wrap (8 * z) = 8 * z := IntWalk.i64_in _ (by omega)
      have hby := byteI (v := v) (j := n - 1 - k) (z := z) (by omega) (by omega)
      have happ := app_sl (μ := ⟨blks, appLv lv tk ++ [nx], nx + 1, gl, []⟩) (e := 5) (sz := 1) (bytes := 1) (n := bb.length + k) (m := 1) (cs := aBytes (bb ++ (be n v).take k)) (ds := [.lit (.int .u8 ((beB v (n - 1 - k)).toNat : Nat))]) (tk := .own nx 5) (tk' := .full)
        (by simp [CanApp]) (by rw [aBytes_length, Nat.mul_one]; simp [be_len]; omega) rfl (by omega) rfl
      simp [sy_seq, sy_region, sy_cons, sy_nil, sy_q, sy_n, sy_e, sy_gq, sy_put, sy_put0, sy_tmp, sy_int, sy_bool, sy_nilsl, sy_cond, sy_skip, sy_exit, sy_ret, sy_blockE, sy_blockR, QOp.sem, NOp.sem, EOp.sem, q, qg, qd, T, I, mv, sy_atL, sy_atL0, A0, cnd, rg, rsG, gdR, stripA, guardV, pickR, len_sl, len_ms, len_str, len_arr, unR, binR, ib_add, ib_sub, ib_mul, ib_quo, ib_rem, ib_eql, ib_neq, ib_lss, ib_leq, ib_gtr, ib_geq, is_shl, is_shr, bits64, sy_nili, sy_str, sy_nilp, sy_nilf, sy_nilmap, sy_slice, sy_draw, sy_dnil, sy_dcons, sy_dq, sy_dn, sy_de, sy_dgq, sy_rsA, sy_rechk0, sy_rechk, sy_call, sy_dcall, sy_panic, panicR, sy_hideE, sy_blockP, sy_after, sy_afterp, sy_afterD, sy_afterDp, nilcR, convR, bndV_nat, bndV_none, hz0]
      rw [sy_block]
      have h8 : 0 ≤ 8 * z := by omega
      simp [sy_seq, sy_region, sy_cons, sy_nil, sy_q, sy_n, sy_e, sy_gq, sy_put, sy_put0, sy_tmp, sy_int, sy_bool, sy_nilsl, sy_cond, sy_skip, sy_exit, sy_ret, sy_blockE, sy_blockR, QOp.sem, NOp.sem, EOp.sem, q, qg, qd, T, I, mv, sy_atL, sy_atL0, A0, cnd, rg, rsG, gdR, stripA, guardV, pickR, len_sl, len_ms, len_str, len_arr, unR, binR, ib_add, ib_sub, ib_mul, ib_quo, ib_rem, ib_eql, ib_neq, ib_lss, ib_leq, ib_gtr, ib_geq, is_shl, is_shr, bits64, sy_nili, sy_str, sy_nilp, sy_nilf, sy_nilmap, sy_slice, sy_draw, sy_dnil, sy_dcons, sy_dq, sy_dn, sy_de, sy_dgq, sy_rsA, sy_rechk0, sy_rechk, sy_call, sy_dcall, sy_panic, panicR, sy_hideE, sy_blockP, sy_after, sy_afterp, sy_afterD, sy_afterDp, nilcR, convR, bndV_nat, bndV_none, buildR, bsliceR, partsA, aFill, Places.get, vc_agg, vr_agg, vc_sl, vc_ptr, vc_ep, vc_mp, vc_ms, vc_fn, vc_ifc, vc_int, vc_bool, vc_str, vc_nili, vc_nilp, vc_nilm, vc_nilf, vr_sl, vr_ptr, vr_ep, vr_mp, vr_ms, vr_fn, vr_ifc, vr_int, vr_bool, vr_str, vr_nili, vr_nilp, vr_nilm, vr_nilf, on_sl, on_ptr, on_ep, on_mp, on_ms, on_fn, on_ifc, on_int, on_bool, on_str, on_nili, on_nilp, on_nilm, on_nilf, setAt, aSeq, storeR, w8, hz0, h8, hby, happ]
      refine ⟨k + 1, z - 1, ⟨hlt, by omega⟩, by omega, ?_⟩
      have hne : ¬ nx ∈ appLv lv tk := fun h => hnl (hsub nx h)
      have her : appLv (appLv lv tk ++ [nx]) (.own nx 5) = appLv lv tk := by
        show (appLv lv tk ++ [nx]).erase nx = _
        rw [List.erase_append_right _ hne]; simp
      rw [her]
      have := Wk.gen (b := ⟨blks.length, nx, none⟩) (l := blks) (l' := blks) (lv := (nx + 1) :: appLv lv tk) (nx := nx + 1 + 1) (gl := gl) (df := []) (appLv lv tk) [some (nx + 1)] (L := [(0, .sl (bb.length + (k + 1)) (aBytes (bb ++ (be n v).take (k + 1))) (.own nx 5)), (1, .lit (.int .i64 (v : Nat))), (7, .lit (.int .i64 (z - 1)))])
        (A := ?A2) (Nat.le_refl _) (fun r hr => ⟨(hlv0 r hr).1, by simp [hr]⟩) hnd0 (by simp) (.one _) (by simp) (by have := BWs_same (k := blks.length) (s := nx) (nx := nx + 1) (ρ := ρG nx [some (nx + 1)]) (l := blks) (r := []) hf.wf.blk; simpa using this) ?_
      · simpa using this
      · refine VWL.all ?_
        simp only [VWL]
        refine ⟨.sl' (tk := .own (nx + 1) 5) ?_ (Cleans_aBytes _) ⟨rfl, by simp [ρG]⟩, .eq ?_ ?_, .eq ?_ ?_, trivial⟩ <;> simp [sy_seq, sy_region, sy_cons, sy_nil, sy_q, sy_n, sy_e, sy_gq, sy_put, sy_put0, sy_tmp, sy_int, sy_bool, sy_nilsl, sy_cond, sy_skip, sy_exit, sy_ret, sy_blockE, sy_blockR, QOp.sem, NOp.sem, EOp.sem, q, qg, qd, T, I, mv, sy_atL, sy_atL0, A0, cnd, rg, rsG, gdR, stripA, guardV, pickR, len_sl, len_ms, len_str, len_arr, unR, binR, ib_add, ib_sub, ib_mul, ib_quo, ib_rem, ib_eql, ib_neq, ib_lss, ib_leq, ib_gtr, ib_geq, is_shl, is_shr, bits64, Clean]
        · rw [be_take hlt]
          refine ⟨by omega, ?_⟩
          simp [aBytes]
        · simp only [IntKind.wrap_i64]; omega
    · have hie : k = n := by omega
      subst hie
      have hz0 : ¬ 0 ≤ z := by omega
      simp [sy_seq, sy_region, sy_cons, sy_nil, sy_q, sy_n, sy_e, sy_gq, sy_put, sy_put0, sy_tmp, sy_int, sy_bool, sy_nilsl, sy_cond, sy_skip, sy_exit, sy_ret, sy_blockE, sy_blockR, QOp.sem, NOp.sem, EOp.sem, q, qg, qd, T, I, mv, sy_atL, sy_atL0, A0, cnd, rg, rsG, gdR, stripA, guardV, pickR, len_sl, len_ms, len_str, len_arr, unR, binR, ib_add, ib_sub, ib_mul, ib_quo, ib_rem, ib_eql, ib_neq, ib_lss, ib_leq, ib_gtr, ib_geq, is_shl, is_shr, bits64, sy_nili, sy_str, sy_nilp, sy_nilf, sy_nilmap, sy_slice, sy_draw, sy_dnil, sy_dcons, sy_dq, sy_dn, sy_de, sy_dgq, sy_rsA, sy_rechk0, sy_rechk, sy_call, sy_dcall, sy_panic, panicR, sy_hideE, sy_blockP, sy_after, sy_afterp, sy_afterD, sy_afterDp, nilcR, convR, bndV_nat, bndV_none, hz0]
      refine ⟨by simp [retVs], .inl ?_⟩
      simp [retVs, oneOr, sy_seq, sy_region, sy_cons, sy_nil, sy_q, sy_n, sy_e, sy_gq, sy_put, sy_put0, sy_tmp, sy_int, sy_bool, sy_nilsl, sy_cond, sy_skip, sy_exit, sy_ret, sy_blockE, sy_blockR, QOp.sem, NOp.sem, EOp.sem, q, qg, qd, T, I, mv, sy_atL, sy_atL0, A0, cnd, rg, rsG, gdR, stripA, guardV, pickR, len_sl, len_ms, len_str, len_arr, unR, binR, ib_add, ib_sub, ib_mul, ib_quo, ib_rem, ib_eql, ib_neq, ib_lss, ib_leq, ib_gtr, ib_geq, is_shl, is_shr, bits64, AMem.bare]
      have ht : (be k v).take k = be k v := List.take_of_length_le (by rw [be_len]; exact Nat.le_refl _)
      rw [ht]
      exact hRR _ _ _ _ _ _ ⟨rfl, rfl⟩
theorem put_ok' (t : Tells P) {blks : List ABlk} {lv : List Nat} {nx : Nat} {df : List ADef} {bb : List UInt8} {tk : Tk} {v n m : Nat} (hm : bb.length = m) (hc : CanApp 5 lv tk) (hn : 1 ≤ n ∧ n ≤ 8) (hv : v < 1099511627776) (hb : m ≤ 1099511627776) :
    calls P 25 [.sl m (aBytes bb) tk, .lit (.int .i64 (v : Nat)), .lit (.int .i64 (n : Nat))] ⟨blks, lv, nx, gl, df⟩ (fun o μ' => o = .ret (.sl (m + n) (aBytes (bb ++ be n v)) (.own nx 5)) ∧ μ' = ⟨blks, appLv lv tk ++ [nx], nx + 1, gl, df⟩) := by
  subst hm; exact put_ok t hc hn hv hb
end Go.Proofs.YtjleeecaebgblaaGreatDoor.AL.K
namespace Go.Proofs.YtjleeecaebgblaaGreatDoor.AL.K
open Go Go.Proofs.YtjleeecaebgblaaGreatDoor.AL Go.RowKit
variable {P : Program} {gl : Nat → Option (List AVal)}
theorem g23 : fns.get 23 = some c23 := by rfl
theorem g33 : fns.get 33 = some c33 := by rfl
theorem g22 : fns.get 22 = some c22 := by rfl
theorem g10 : fns.get 10 = some c10 := by rfl
theorem sy_func {A : ATmps} (f : FuncId) : aeval A (.func f) = .fn (.func f) [] [] := rfl
theorem not23 (t : Tells P) (x : Te) : Pure P gl 23 [.agg (x.cells .no)] (.lit (.bool !x.right)) := by
  refine Pure.of t.m (t.f 23 (by decide) _ g23) (by simp [c23]) (by simp [Clean]) (by simp [Cleans, Clean, x.clean]) ?_
  have hr := right24 (gl := gl) t x
  simp only [c23]
  simp [sy_seq, sy_region, sy_cons, sy_nil, sy_q, sy_n, sy_e, sy_gq, sy_put, sy_put0, sy_tmp, sy_int, sy_bool, sy_nilsl, sy_cond, sy_skip, sy_exit, sy_ret, sy_blockE, sy_blockR, QOp.sem, NOp.sem, EOp.sem, q, qg, qd, T, I, mv, sy_atL, sy_atL0, A0, cnd, rg, rsG, gdR, stripA, guardV, pickR, len_sl, len_ms, len_str, len_arr, unR, binR, ib_add, ib_sub, ib_mul, ib_quo, ib_rem, ib_eql, ib_neq, ib_lss, ib_leq, ib_gtr, ib_geq, is_shl, is_shr, bits64, sy_nili, sy_str, sy_nilp, sy_nilf, sy_nilmap, sy_slice, sy_draw, sy_dnil, sy_dcons, sy_dq, sy_dn, sy_de, sy_dgq, sy_rsA, sy_rechk0, sy_rechk, sy_call, sy_dcall, sy_panic, panicR, sy_hideE, sy_blockP, sy_after, sy_afterp, sy_afterD, sy_afterDp, nilcR, convR, bndV_nat, bndV_none, sh_ptr, sh_ep, ld_ptr, ld_ep, lds_ptr, lds_ep, ptrS, buildR, bsliceR, partsA, aFill, Places.get, vc_agg, vr_agg, vc_sl, vc_ptr, vc_ep, vc_mp, vc_ms, vc_fn, vc_ifc, vc_int, vc_bool, vc_str, vc_nili, vc_nilp, vc_nilm, vc_nilf, vr_sl, vr_ptr, vr_ep, vr_mp, vr_ms, vr_fn, vr_ifc, vr_int, vr_bool, vr_str, vr_nili, vr_nilp, vr_nilm, vr_nilf, on_sl, on_ptr, on_ep, on_mp, on_ms, on_fn, on_ifc, on_int, on_bool, on_str, on_nili, on_nilp, on_nilm, on_nilf, setAt, aSeq, storeR, Te.cells_len]
  have e : (x.cells .no).take 4 = x.cells .no := List.take_of_length_le (by rw [Te.cells_len]; exact Nat.le_refl _)
  rw [e]
  refine (hr _ rfl).ret ?_
  simp [sy_seq, sy_region, sy_cons, sy_nil, sy_q, sy_n, sy_e, sy_gq, sy_put, sy_put0, sy_tmp, sy_int, sy_bool, sy_nilsl, sy_cond, sy_skip, sy_exit, sy_ret, sy_blockE, sy_blockR, QOp.sem, NOp.sem, EOp.sem, q, qg, qd, T, I, mv, sy_atL, sy_atL0, A0, cnd, rg, rsG, gdR, stripA, guardV, pickR, len_sl, len_ms, len_str, len_arr, unR, binR, ib_add, ib_sub, ib_mul, ib_quo, ib_rem, ib_eql, ib_neq, ib_lss, ib_leq, ib_gtr, ib_geq, is_shl, is_shr, bits64, sy_nili, sy_str, sy_nilp, sy_nilf, sy_nilmap, sy_slice, sy_draw, sy_dnil, sy_dcons, sy_dq, sy_dn, sy_de, sy_dgq, sy_rsA, sy_rechk0, sy_rechk, sy_call, sy_dcall, sy_panic, panicR, sy_hideE, sy_blockP, sy_after, sy_afterp, sy_afterD, sy_afterDp, nilcR, convR, bndV_nat, bndV_none]
  refine ret0 rfl rfl (by simp [retVs]) ?_
  simp [retVs, oneOr, sy_seq, sy_region, sy_cons, sy_nil, sy_q, sy_n, sy_e, sy_gq, sy_put, sy_put0, sy_tmp, sy_int, sy_bool, sy_nilsl, sy_cond, sy_skip, sy_exit, sy_ret, sy_blockE, sy_blockR, QOp.sem, NOp.sem, EOp.sem, q, qg, qd, T, I, mv, sy_atL, sy_atL0, A0, cnd, rg, rsG, gdR, stripA, guardV, pickR, len_sl, len_ms, len_str, len_arr, unR, binR, ib_add, ib_sub, ib_mul, ib_quo, ib_rem, ib_eql, ib_neq, ib_lss, ib_leq, ib_gtr, ib_geq, is_shl, is_shr, bits64]
  exact .same _ (by simp [Clean])
/-- The first test that has no encoding, or -1. -/
def idxT (ts : List Te) : Int := match ts.findIdx? fun x => !x.right with
  | some i => (i : Nat)
  | none => -1
theorem index33 (t : Tells P) (ts : List Te) (hl : ts.length ≤ 1000000) : Pure P gl 33 [.sl ts.length (tcells ts) .no, .fn (.func 23) [] []] (.lit (.int .i64 (idxT ts))) := by
  refine Pure.of t.m (t.f 33 (by decide) _ g33) (by simp [c33]) (by simp [Clean]) (by simp [Cleans, Clean, Cleans_tcells]) ?_
  simp only [c33]
  simp [sy_seq, sy_region, sy_cons, sy_nil, sy_q, sy_n, sy_e, sy_gq, sy_put, sy_put0, sy_tmp, sy_int, sy_bool, sy_nilsl, sy_cond, sy_skip, sy_exit, sy_ret, sy_blockE, sy_blockR, QOp.sem, NOp.sem, EOp.sem, q, qg, qd, T, I, mv, sy_atL, sy_atL0, A0, cnd, rg, rsG, gdR, stripA, guardV, pickR, len_sl, len_ms, len_str, len_arr, unR, binR, ib_add, ib_sub, ib_mul, ib_quo, ib_rem, ib_eql, ib_neq, ib_lss, ib_leq, ib_gtr, ib_geq, is_shl, is_shr, bits64, sy_nili, sy_str, sy_nilp, sy_nilf, sy_nilmap, sy_slice, sy_draw, sy_dnil, sy_dcons, sy_dq, sy_dn, sy_de, sy_dgq, sy_rsA, sy_rechk0, sy_rechk, sy_call, sy_dcall, sy_panic, panicR, sy_hideE, sy_blockP, sy_after, sy_afterp, sy_afterD, sy_afterDp, nilcR, convR, bndV_nat, bndV_none]
  rw [sy_block]
  refine sy_loopL (fun i => i ≤ ts.length ∧ ∀ j (h : j < ts.length), j < i → ts[j].right = true) (fun i => [(0, .sl ts.length (tcells ts) .no), (1, .fn (.func 23) [] []), (7, .lit (.int .i64 (ts.length : Nat))), (8, .lit (.int .i64 (i : Nat)))]) (fun _ => ⟨[], [], 0, gl, []⟩) (fun i => ts.length - i) 0 ⟨Nat.zero_le _, fun j _ h => absurd h (Nat.not_lt_zero _)⟩ ?_ ?_
  · apply Wk.zero; simp only [VWL]; refine ⟨.eq ?_ ?_, .eq ?_ ?_, .eq ?_ ?_, .eq ?_ ?_, trivial⟩ <;> simp [sy_seq, sy_region, sy_cons, sy_nil, sy_q, sy_n, sy_e, sy_gq, sy_put, sy_put0, sy_tmp, sy_int, sy_bool, sy_nilsl, sy_cond, sy_skip, sy_exit, sy_ret, sy_blockE, sy_blockR, QOp.sem, NOp.sem, EOp.sem, q, qg, qd, T, I, mv, sy_atL, sy_atL0, A0, cnd, rg, rsG, gdR, stripA, guardV, pickR, len_sl, len_ms, len_str, len_arr, unR, binR, ib_add, ib_sub, ib_mul, ib_quo, ib_rem, ib_eql, ib_neq, ib_lss, ib_leq, ib_gtr, ib_geq, is_shl, is_shr, bits64, Clean, Cleans, Cleans_tcells]
  · rintro i ⟨hi, hall⟩
    by_cases hlt : i < ts.length
    · have hd := tcells_at hlt
      have hn := not23 (gl := gl) t ts[i]
      unfold Pure at hn
      simp only [Te.cells] at hn
      simp [sy_seq, sy_region, sy_cons, sy_nil, sy_q, sy_n, sy_e, sy_gq, sy_put, sy_put0, sy_tmp, sy_int, sy_bool, sy_nilsl, sy_cond, sy_skip, sy_exit, sy_ret, sy_blockE, sy_blockR, QOp.sem, NOp.sem, EOp.sem, q, qg, qd, T, I, mv, sy_atL, sy_atL0, A0, cnd, rg, rsG, gdR, stripA, guardV, pickR, len_sl, len_ms, len_str, len_arr, unR, binR, ib_add, ib_sub, ib_mul, ib_quo, ib_rem, ib_eql, ib_neq, ib_lss, ib_leq, ib_gtr, ib_geq, is_shl, is_shr, bits64, sy_nili, sy_str, sy_nilp, sy_nilf, sy_nilmap, sy_slice, sy_draw, sy_dnil, sy_dcons, sy_dq, sy_dn, sy_de, sy_dgq, sy_rsA, sy_rechk0, sy_rechk, sy_call, sy_dcall, sy_panic, panicR, sy_hideE, sy_blockP, sy_after, sy_afterp, sy_afterD, sy_afterDp, nilcR, convR, bndV_nat, bndV_none, hlt]
      rw [sy_block]
      simp [sy_seq, sy_region, sy_cons, sy_nil, sy_q, sy_n, sy_e, sy_gq, sy_put, sy_put0, sy_tmp, sy_int, sy_bool, sy_nilsl, sy_cond, sy_skip, sy_exit, sy_ret, sy_blockE, sy_blockR, QOp.sem, NOp.sem, EOp.sem, q, qg, qd, T, I, mv, sy_atL, sy_atL0, A0, cnd, rg, rsG, gdR, stripA, guardV, pickR, len_sl, len_ms, len_str, len_arr, unR, binR, ib_add, ib_sub, ib_mul, ib_quo, ib_rem, ib_eql, ib_neq, ib_lss, ib_leq, ib_gtr, ib_geq, is_shl, is_shr, bits64, sy_nili, sy_str, sy_nilp, sy_nilf, sy_nilmap, sy_slice, sy_draw, sy_dnil, sy_dcons, sy_dq, sy_dn, sy_de, sy_dgq, sy_rsA, sy_rechk0, sy_rechk, sy_call, sy_dcall, sy_panic, panicR, sy_hideE, sy_blockP, sy_after, sy_afterp, sy_afterD, sy_afterDp, nilcR, convR, bndV_nat, bndV_none, sh_ptr, sh_ep, ld_ptr, ld_ep, lds_ptr, lds_ep, ptrS, ix_sl, hd, hlt, sy_callv, callvR]
      refine (hn _ rfl).ret ?_
      simp [sy_seq, sy_region, sy_cons, sy_nil, sy_q, sy_n, sy_e, sy_gq, sy_put, sy_put0, sy_tmp, sy_int, sy_bool, sy_nilsl, sy_cond, sy_skip, sy_exit, sy_ret, sy_blockE, sy_blockR, QOp.sem, NOp.sem, EOp.sem, q, qg, qd, T, I, mv, sy_atL, sy_atL0, A0, cnd, rg, rsG, gdR, stripA, guardV, pickR, len_sl, len_ms, len_str, len_arr, unR, binR, ib_add, ib_sub, ib_mul, ib_quo, ib_rem, ib_eql, ib_neq, ib_lss, ib_leq, ib_gtr, ib_geq, is_shl, is_shr, bits64, sy_nili, sy_str, sy_nilp, sy_nilf, sy_nilmap, sy_slice, sy_draw, sy_dnil, sy_dcons, sy_dq, sy_dn, sy_de, sy_dgq, sy_rsA, sy_rechk0, sy_rechk, sy_call, sy_dcall, sy_panic, panicR, sy_hideE, sy_blockP, sy_after, sy_afterp, sy_afterD, sy_afterDp, nilcR, convR, bndV_nat, bndV_none]
      refine ⟨fun hr => ?_, fun hr => ?_⟩
      · refine ret0 rfl rfl (by simp [retVs]) ?_
        simp [retVs, oneOr, sy_seq, sy_region, sy_cons, sy_nil, sy_q, sy_n, sy_e, sy_gq, sy_put, sy_put0, sy_tmp, sy_int, sy_bool, sy_nilsl, sy_cond, sy_skip, sy_exit, sy_ret, sy_blockE, sy_blockR, QOp.sem, NOp.sem, EOp.sem, q, qg, qd, T, I, mv, sy_atL, sy_atL0, A0, cnd, rg, rsG, gdR, stripA, guardV, pickR, len_sl, len_ms, len_str, len_arr, unR, binR, ib_add, ib_sub, ib_mul, ib_quo, ib_rem, ib_eql, ib_neq, ib_lss, ib_leq, ib_gtr, ib_geq, is_shl, is_shr, bits64]
        refine .eq ?_ (by simp [Clean])
        have : ts.findIdx? (fun x => !x.right) = some i := by
          rw [List.findIdx?_eq_some_iff_getElem]
          refine ⟨hlt, by simp [hr], fun j hj => ?_⟩
          simp [hall j (by omega) hj]
        simp [idxT, this]
      · refine ⟨i + 1, ⟨hlt, fun j h hj => ?_⟩, by omega, ?_⟩
        · rcases Nat.lt_succ_iff_lt_or_eq.1 hj with h1 | h1
          · exact hall j h h1
          · subst h1; exact hr
        apply Wk.zero; simp only [VWL]; refine ⟨.eq ?_ ?_, .eq ?_ ?_, .eq ?_ ?_, .eq ?_ ?_, trivial⟩ <;> simp [sy_seq, sy_region, sy_cons, sy_nil, sy_q, sy_n, sy_e, sy_gq, sy_put, sy_put0, sy_tmp, sy_int, sy_bool, sy_nilsl, sy_cond, sy_skip, sy_exit, sy_ret, sy_blockE, sy_blockR, QOp.sem, NOp.sem, EOp.sem, q, qg, qd, T, I, mv, sy_atL, sy_atL0, A0, cnd, rg, rsG, gdR, stripA, guardV, pickR, len_sl, len_ms, len_str, len_arr, unR, binR, ib_add, ib_sub, ib_mul, ib_quo, ib_rem, ib_eql, ib_neq, ib_lss, ib_leq, ib_gtr, ib_geq, is_shl, is_shr, bits64, Clean, Cleans, Cleans_tcells]
        simp only [IntKind.wrap_i64]; omega
    · have hie : i = ts.length := by omega
      subst hie
      simp [sy_seq, sy_region, sy_cons, sy_nil, sy_q, sy_n, sy_e, sy_gq, sy_put, sy_put0, sy_tmp, sy_int, sy_bool, sy_nilsl, sy_cond, sy_skip, sy_exit, sy_ret, sy_blockE, sy_blockR, QOp.sem, NOp.sem, EOp.sem, q, qg, qd, T, I, mv, sy_atL, sy_atL0, A0, cnd, rg, rsG, gdR, stripA, guardV, pickR, len_sl, len_ms, len_str, len_arr, unR, binR, ib_add, ib_sub, ib_mul, ib_quo, ib_rem, ib_eql, ib_neq, ib_lss, ib_leq, ib_gtr, ib_geq, is_shl, is_shr, bits64, sy_nili, sy_str, sy_nilp, sy_nilf, sy_nilmap, sy_slice, sy_draw, sy_dnil, sy_dcons, sy_dq, sy_dn, sy_de, sy_dgq, sy_rsA, sy_rechk0, sy_rechk, sy_call, sy_dcall, sy_panic, panicR, sy_hideE, sy_blockP, sy_after, sy_afterp, sy_afterD, sy_afterDp, nilcR, convR, bndV_nat, bndV_none]
      refine ret0 rfl rfl (by simp [retVs]) ?_
      simp [retVs, oneOr, sy_seq, sy_region, sy_cons, sy_nil, sy_q, sy_n, sy_e, sy_gq, sy_put, sy_put0, sy_tmp, sy_int, sy_bool, sy_nilsl, sy_cond, sy_skip, sy_exit, sy_ret, sy_blockE, sy_blockR, QOp.sem, NOp.sem, EOp.sem, q, qg, qd, T, I, mv, sy_atL, sy_atL0, A0, cnd, rg, rsG, gdR, stripA, guardV, pickR, len_sl, len_ms, len_str, len_arr, unR, binR, ib_add, ib_sub, ib_mul, ib_quo, ib_rem, ib_eql, ib_neq, ib_lss, ib_leq, ib_gtr, ib_geq, is_shl, is_shr, bits64]
      refine .eq ?_ (by simp [Clean])
      have : ts.findIdx? (fun x => !x.right) = none := by
        rw [List.findIdx?_eq_none_iff]
        intro x hx
        obtain ⟨j, hj, rfl⟩ := List.getElem_of_mem hx
        simp [hall j hj hj]
      simp [idxT, this]
/-- Is there a test that has no encoding? -/
def notR (ts : List Te) : Bool := ts.any fun x => !x.right
theorem contains22 (t : Tells P) (ts : List Te) (hl : ts.length ≤ 1000000) : Pure P gl 22 [.sl ts.length (tcells ts) .no, .fn (.func 23) [] []] (.lit (.bool (notR ts))) := by
  refine Pure.of t.m (t.f 22 (by decide) _ g22) (by simp [c22]) (by simp [Clean]) (by simp [Cleans, Clean, Cleans_tcells]) ?_
  simp only [c22]
  simp [sy_seq, sy_region, sy_cons, sy_nil, sy_q, sy_n, sy_e, sy_gq, sy_put, sy_put0, sy_tmp, sy_int, sy_bool, sy_nilsl, sy_cond, sy_skip, sy_exit, sy_ret, sy_blockE, sy_blockR, QOp.sem, NOp.sem, EOp.sem, q, qg, qd, T, I, mv, sy_atL, sy_atL0, A0, cnd, rg, rsG, gdR, stripA, guardV, pickR, len_sl, len_ms, len_str, len_arr, unR, binR, ib_add, ib_sub, ib_mul, ib_quo, ib_rem, ib_eql, ib_neq, ib_lss, ib_leq, ib_gtr, ib_geq, is_shl, is_shr, bits64, sy_nili, sy_str, sy_nilp, sy_nilf, sy_nilmap, sy_slice, sy_draw, sy_dnil, sy_dcons, sy_dq, sy_dn, sy_de, sy_dgq, sy_rsA, sy_rechk0, sy_rechk, sy_call, sy_dcall, sy_panic, panicR, sy_hideE, sy_blockP, sy_after, sy_afterp, sy_afterD, sy_afterDp, nilcR, convR, bndV_nat, bndV_none]
  refine (index33 t ts hl _ rfl).ret ?_
  simp [sy_seq, sy_region, sy_cons, sy_nil, sy_q, sy_n, sy_e, sy_gq, sy_put, sy_put0, sy_tmp, sy_int, sy_bool, sy_nilsl, sy_cond, sy_skip, sy_exit, sy_ret, sy_blockE, sy_blockR, QOp.sem, NOp.sem, EOp.sem, q, qg, qd, T, I, mv, sy_atL, sy_atL0, A0, cnd, rg, rsG, gdR, stripA, guardV, pickR, len_sl, len_ms, len_str, len_arr, unR, binR, ib_add, ib_sub, ib_mul, ib_quo, ib_rem, ib_eql, ib_neq, ib_lss, ib_leq, ib_gtr, ib_geq, is_shl, is_shr, bits64, sy_nili, sy_str, sy_nilp, sy_nilf, sy_nilmap, sy_slice, sy_draw, sy_dnil, sy_dcons, sy_dq, sy_dn, sy_de, sy_dgq, sy_rsA, sy_rechk0, sy_rechk, sy_call, sy_dcall, sy_panic, panicR, sy_hideE, sy_blockP, sy_after, sy_afterp, sy_afterD, sy_afterDp, nilcR, convR, bndV_nat, bndV_none]
  refine ret0 rfl rfl (by simp [retVs]) ?_
  simp [retVs, oneOr, sy_seq, sy_region, sy_cons, sy_nil, sy_q, sy_n, sy_e, sy_gq, sy_put, sy_put0, sy_tmp, sy_int, sy_bool, sy_nilsl, sy_cond, sy_skip, sy_exit, sy_ret, sy_blockE, sy_blockR, QOp.sem, NOp.sem, EOp.sem, q, qg, qd, T, I, mv, sy_atL, sy_atL0, A0, cnd, rg, rsG, gdR, stripA, guardV, pickR, len_sl, len_ms, len_str, len_arr, unR, binR, ib_add, ib_sub, ib_mul, ib_quo, ib_rem, ib_eql, ib_neq, ib_lss, ib_leq, ib_gtr, ib_geq, is_shl, is_shr, bits64]
  refine .eq ?_ (by simp [Clean])
  have : decide (0 ≤ idxT ts) = notR ts := by
    unfold idxT notR
    cases h : ts.findIdx? fun x => !x.right with
    | none =>
      rw [List.findIdx?_eq_none_iff] at h
      have : (ts.any fun x => !x.right) = false := by
        rw [List.any_eq_false]; intro x hx; simpa using h x hx
      rw [this]; rfl
    | some i =>
      rw [List.findIdx?_eq_some_iff_getElem] at h
      obtain ⟨hi, h1, _⟩ := h
      have : (ts.any fun x => !x.right) = true := List.any_eq_true.2 ⟨ts[i], List.getElem_mem _, h1⟩
      rw [this]; simp
  rw [this]
end Go.Proofs.YtjleeecaebgblaaGreatDoor.AL.K
namespace Go.Proofs.YtjleeecaebgblaaGreatDoor.AL.K
open Go Go.Proofs.YtjleeecaebgblaaGreatDoor.AL Go.RowKit
variable {P : Program} {gl : Nat → Option (List AVal)}
/-- The encoding of a test. -/
def encT (x : Te) : List UInt8 := be 1 (if x.acc then 1 else 0) ++ be 4 x.at_.toNat ++ be 1 x.code.toNat ++ be 3 x.bs.length ++ x.bs
def encAll (ts : List Te) : List UInt8 := [80, 66, 67, 49] ++ be 2 ts.length ++ ts.flatMap encT
theorem encT_len (x : Te) : (encT x).length = 9 + x.bs.length := by simp [encT, be_len]; omega
/-- What is written before a test. -/
def encP (ts : List Te) (i : Nat) : List UInt8 := [80, 66, 67, 49] ++ be 2 ts.length ++ (ts.take i).flatMap encT
/-- Tests as a statement's guard lets them in. -/
def few (ts : List Te) : Prop := ts.length ≤ 30 ∧ ∀ x ∈ ts, x.bs.length ≤ 200
theorem flat_len {ts : List Te} (h : ∀ x ∈ ts, x.bs.length ≤ 200) : (ts.flatMap encT).length ≤ ts.length * 209 := by
  induction ts with
  | nil => simp
  | cons x ts ih =>
    have h1 := h x (by simp)
    have h2 := ih fun y hy => h y (by simp [hy])
    simp only [List.flatMap_cons, List.length_append, encT_len, List.length_cons]
    omega
def encV (ts : List Te) : AVal := if notR ts then .tup [.sl 0 [] .no, .lit (.int .i64 2)] else .tup [.sl (encAll ts).length (aBytes (encAll ts)) .no, .lit (.int .i64 0)]
theorem right_at {x : Te} (h : x.right = true) : x.at_ = (x.at_.toNat : Nat) ∧ x.at_.toNat ≤ 1048576 ∧ x.code = (x.code.toNat : Nat) ∧ x.code.toNat ≤ 255 := by
  simp only [Te.right, Bool.and_eq_true, decide_eq_true_eq] at h
  omega
theorem encode_ok (t : Tells P) (ts : List Te) (hf : few ts) : Pure P gl 10 [.sl ts.length (tcells ts) .no] (encV ts) := by
  have hv : Clean 0 0 (encV ts) := by unfold encV; split <;> simp [Clean, Cleans, Cleans_aBytes]
  refine Pure.of t.m (t.f 10 (by decide) _ g10) (by simp [c10]) hv (by simp [Cleans, Clean, Cleans_tcells]) ?_
  obtain ⟨h30, h200⟩ := hf
  have hb : ¬ (65535 : Int) < (ts.length : Nat) := by omega
  simp only [c10]
  simp [sy_seq, sy_region, sy_cons, sy_nil, sy_q, sy_n, sy_e, sy_gq, sy_put, sy_put0, sy_tmp, sy_int, sy_bool, sy_nilsl, sy_cond, sy_skip, sy_exit, sy_ret, sy_blockE, sy_blockR, QOp.sem, NOp.sem, EOp.sem, q, qg, qd, T, I, mv, sy_atL, sy_atL0, A0, cnd, rg, rsG, gdR, stripA, guardV, pickR, len_sl, len_ms, len_str, len_arr, unR, binR, ib_add, ib_sub, ib_mul, ib_quo, ib_rem, ib_eql, ib_neq, ib_lss, ib_leq, ib_gtr, ib_geq, is_shl, is_shr, bits64, sy_nili, sy_str, sy_nilp, sy_nilf, sy_nilmap, sy_slice, sy_draw, sy_dnil, sy_dcons, sy_dq, sy_dn, sy_de, sy_dgq, sy_rsA, sy_rechk0, sy_rechk, sy_call, sy_dcall, sy_panic, panicR, sy_hideE, sy_blockP, sy_after, sy_afterp, sy_afterD, sy_afterDp, nilcR, convR, bndV_nat, bndV_none, hb, sy_gcall, sy_func]
  refine .inl ⟨.lit (.bool (notR ts)), trivial, contains22 t ts (by omega) _ rfl, ?_⟩
  simp [sy_seq, sy_region, sy_cons, sy_nil, sy_q, sy_n, sy_e, sy_gq, sy_put, sy_put0, sy_tmp, sy_int, sy_bool, sy_nilsl, sy_cond, sy_skip, sy_exit, sy_ret, sy_blockE, sy_blockR, QOp.sem, NOp.sem, EOp.sem, q, qg, qd, T, I, mv, sy_atL, sy_atL0, A0, cnd, rg, rsG, gdR, stripA, guardV, pickR, len_sl, len_ms, len_str, len_arr, unR, binR, ib_add, ib_sub, ib_mul, ib_quo, ib_rem, ib_eql, ib_neq, ib_lss, ib_leq, ib_gtr, ib_geq, is_shl, is_shr, bits64, sy_nili, sy_str, sy_nilp, sy_nilf, sy_nilmap, sy_slice, sy_draw, sy_dnil, sy_dcons, sy_dq, sy_dn, sy_de, sy_dgq, sy_rsA, sy_rechk0, sy_rechk, sy_call, sy_dcall, sy_panic, panicR, sy_hideE, sy_blockP, sy_after, sy_afterp, sy_afterD, sy_afterDp, nilcR, convR, bndV_nat, bndV_none]
  refine ⟨fun hr => ?_, fun hr => ?_⟩
  · refine ret0 rfl rfl (by simp [retVs]) ?_
    simp [retVs, oneOr, sy_seq, sy_region, sy_cons, sy_nil, sy_q, sy_n, sy_e, sy_gq, sy_put, sy_put0, sy_tmp, sy_int, sy_bool, sy_nilsl, sy_cond, sy_skip, sy_exit, sy_ret, sy_blockE, sy_blockR, QOp.sem, NOp.sem, EOp.sem, q, qg, qd, T, I, mv, sy_atL, sy_atL0, A0, cnd, rg, rsG, gdR, stripA, guardV, pickR, len_sl, len_ms, len_str, len_arr, unR, binR, ib_add, ib_sub, ib_mul, ib_quo, ib_rem, ib_eql, ib_neq, ib_lss, ib_leq, ib_gtr, ib_geq, is_shl, is_shr, bits64]
    rw [encV, if_pos hr]
    exact .tup _ _ (.cons _ _ _ _ (.sl _ _ _ _ trivial trivial) (.cons _ _ _ _ (.same _ trivial) .nil))
  have hall : ∀ i (h : i < ts.length), ts[i].right = true := fun i h => by
    have := List.any_eq_false.1 hr ts[i] (List.getElem_mem h)
    simpa using this
  simp [sy_seq, sy_region, sy_cons, sy_nil, sy_q, sy_n, sy_e, sy_gq, sy_put, sy_put0, sy_tmp, sy_int, sy_bool, sy_nilsl, sy_cond, sy_skip, sy_exit, sy_ret, sy_blockE, sy_blockR, QOp.sem, NOp.sem, EOp.sem, q, qg, qd, T, I, mv, sy_atL, sy_atL0, A0, cnd, rg, rsG, gdR, stripA, guardV, pickR, len_sl, len_ms, len_str, len_arr, unR, binR, ib_add, ib_sub, ib_mul, ib_quo, ib_rem, ib_eql, ib_neq, ib_lss, ib_leq, ib_gtr, ib_geq, is_shl, is_shr, bits64, sy_nili, sy_str, sy_nilp, sy_nilf, sy_nilmap, sy_slice, sy_draw, sy_dnil, sy_dcons, sy_dq, sy_dn, sy_de, sy_dgq, sy_rsA, sy_rechk0, sy_rechk, sy_call, sy_dcall, sy_panic, panicR, sy_hideE, sy_blockP, sy_after, sy_afterp, sy_afterD, sy_afterDp, nilcR, convR, bndV_nat, bndV_none, buildR, bsliceR, partsA, aFill, Places.get, vc_agg, vr_agg, vc_sl, vc_ptr, vc_ep, vc_mp, vc_ms, vc_fn, vc_ifc, vc_int, vc_bool, vc_str, vc_nili, vc_nilp, vc_nilm, vc_nilf, vr_sl, vr_ptr, vr_ep, vr_mp, vr_ms, vr_fn, vr_ifc, vr_int, vr_bool, vr_str, vr_nili, vr_nilp, vr_nilm, vr_nilf, on_sl, on_ptr, on_ep, on_mp, on_ms, on_fn, on_ifc, on_int, on_bool, on_str, on_nili, on_nilp, on_nilm, on_nilf, setAt, aSeq, storeR, partsA, markR]
  have hp0 := put_ok (gl := gl) t (blks := [.dead]) (lv := []) (nx := 0) (df := []) (bb := [80, 66, 67, 49]) (tk := .full) (v := ts.length) (n := 2) trivial (by omega) (by omega) (by simp)
  refine calls.mono hp0 ?_
  rintro o μ' ⟨rfl, rfl⟩
  simp [sy_seq, sy_region, sy_cons, sy_nil, sy_q, sy_n, sy_e, sy_gq, sy_put, sy_put0, sy_tmp, sy_int, sy_bool, sy_nilsl, sy_cond, sy_skip, sy_exit, sy_ret, sy_blockE, sy_blockR, QOp.sem, NOp.sem, EOp.sem, q, qg, qd, T, I, mv, sy_atL, sy_atL0, A0, cnd, rg, rsG, gdR, stripA, guardV, pickR, len_sl, len_ms, len_str, len_arr, unR, binR, ib_add, ib_sub, ib_mul, ib_quo, ib_rem, ib_eql, ib_neq, ib_lss, ib_leq, ib_gtr, ib_geq, is_shl, is_shr, bits64, sy_nili, sy_str, sy_nilp, sy_nilf, sy_nilmap, sy_slice, sy_draw, sy_dnil, sy_dcons, sy_dq, sy_dn, sy_de, sy_dgq, sy_rsA, sy_rechk0, sy_rechk, sy_call, sy_dcall, sy_panic, panicR, sy_hideE, sy_blockP, sy_after, sy_afterp, sy_afterD, sy_afterDp, nilcR, convR, bndV_nat, bndV_none, appLv]
  rw [sy_block]
  -- what was written before each test
  have hpl : ∀ i, i ≤ ts.length → (encP ts i).length ≤ 10000 := fun i hi => by
    unfold encP
    have := flat_len (ts := ts.take i) fun x hx => h200 x (List.mem_of_mem_take hx)
    simp only [List.length_append, be_len, List.length_take, List.length_cons, List.length_nil] at this ⊢
    omega
  refine sy_loopL (fun i => i ≤ ts.length) (fun i => [(4, .sl (encP ts i).length (aBytes (encP ts i)) (.own 0 5)), (20, .sl ts.length (tcells ts) .no), (21, .lit (.int .i64 (ts.length : Nat))), (22, .lit (.int .i64 (i : Nat)))])
    (fun _ => ⟨[], [0], 1, gl, []⟩) (fun i => ts.length - i) 0 (Nat.zero_le _) ?_ ?_
  · have := Wk.gen (b := ⟨0, 0, none⟩) (l := [.dead]) (l' := []) (lv := [0]) (nx := 1) (gl := gl) (df := []) [] [some 0] (L := [(4, .sl (encP ts 0).length (aBytes (encP ts 0)) (.own 0 5)), (20, .sl ts.length (tcells ts) .no), (21, .lit (.int .i64 (ts.length : Nat))), (22, .lit (.int .i64 0))])
      (A := ?A) (by simp) (by simp) List.nodup_nil (by simp) (.one _) (by simp) (.nil _) ?_
    · simpa using this
    · refine VWL.all ?_
      simp only [VWL]
      refine ⟨.sl' (tk := .own 0 5) ?_ ?_ ⟨rfl, by simp [ρG]⟩, .eq ?_ ?_, .eq ?_ ?_, .eq ?_ ?_, trivial⟩ <;> simp [sy_seq, sy_region, sy_cons, sy_nil, sy_q, sy_n, sy_e, sy_gq, sy_put, sy_put0, sy_tmp, sy_int, sy_bool, sy_nilsl, sy_cond, sy_skip, sy_exit, sy_ret, sy_blockE, sy_blockR, QOp.sem, NOp.sem, EOp.sem, q, qg, qd, T, I, mv, sy_atL, sy_atL0, A0, cnd, rg, rsG, gdR, stripA, guardV, pickR, len_sl, len_ms, len_str, len_arr, unR, binR, ib_add, ib_sub, ib_mul, ib_quo, ib_rem, ib_eql, ib_neq, ib_lss, ib_leq, ib_gtr, ib_geq, is_shl, is_shr, bits64, Clean, Cleans_tcells, Cleans_aBytes, encP, be_len]
  · intro i hi
    generalize hpre : encP ts i = pre
    have hprel : pre.length ≤ 10000 := by rw [← hpre]; exact hpl i hi
    by_cases hlt : i < ts.length
    · have hd := tcells_at hlt
      obtain ⟨ha1, ha2, hc1, hc2⟩ := right_at (hall i hlt)
      have hbl := h200 _ (List.getElem_mem hlt)
      generalize hx : ts[i] = x at hd ha1 ha2 hc1 hc2 hbl
      generalize x.at_.toNat = a at ha1 ha2
      generalize x.code.toNat = c at hc1 hc2
      have hflag : lookR (.lit (.int .i64 0)) false (if x.acc = true then some (.lit (.int .i64 1)) else none) = .lit (.int .i64 ((if x.acc then 1 else 0 : Nat) : Nat)) := by cases x.acc <;> rfl
      have hfl : (if x.acc then 1 else 0 : Nat) ≤ 1 := by split <;> omega
      generalize hfe : (if x.acc then 1 else 0 : Nat) = fl at hflag hfl
      have hex : encT x = be 1 fl ++ be 4 a ++ be 1 c ++ be 3 x.bs.length ++ x.bs := by
        simp only [encT, hfe, ha1, hc1, Int.toNat_natCast]
      simp [sy_seq, sy_region, sy_cons, sy_nil, sy_q, sy_n, sy_e, sy_gq, sy_put, sy_put0, sy_tmp, sy_int, sy_bool, sy_nilsl, sy_cond, sy_skip, sy_exit, sy_ret, sy_blockE, sy_blockR, QOp.sem, NOp.sem, EOp.sem, q, qg, qd, T, I, mv, sy_atL, sy_atL0, A0, cnd, rg, rsG, gdR, stripA, guardV, pickR, len_sl, len_ms, len_str, len_arr, unR, binR, ib_add, ib_sub, ib_mul, ib_quo, ib_rem, ib_eql, ib_neq, ib_lss, ib_leq, ib_gtr, ib_geq, is_shl, is_shr, bits64, sy_nili, sy_str, sy_nilp, sy_nilf, sy_nilmap, sy_slice, sy_draw, sy_dnil, sy_dcons, sy_dq, sy_dn, sy_de, sy_dgq, sy_rsA, sy_rechk0, sy_rechk, sy_call, sy_dcall, sy_panic, panicR, sy_hideE, sy_blockP, sy_after, sy_afterp, sy_afterD, sy_afterDp, nilcR, convR, bndV_nat, bndV_none, hlt]
      rw [sy_block]
      simp [sy_seq, sy_region, sy_cons, sy_nil, sy_q, sy_n, sy_e, sy_gq, sy_put, sy_put0, sy_tmp, sy_int, sy_bool, sy_nilsl, sy_cond, sy_skip, sy_exit, sy_ret, sy_blockE, sy_blockR, QOp.sem, NOp.sem, EOp.sem, q, qg, qd, T, I, mv, sy_atL, sy_atL0, A0, cnd, rg, rsG, gdR, stripA, guardV, pickR, len_sl, len_ms, len_str, len_arr, unR, binR, ib_add, ib_sub, ib_mul, ib_quo, ib_rem, ib_eql, ib_neq, ib_lss, ib_leq, ib_gtr, ib_geq, is_shl, is_shr, bits64, sy_nili, sy_str, sy_nilp, sy_nilf, sy_nilmap, sy_slice, sy_draw, sy_dnil, sy_dcons, sy_dq, sy_dn, sy_de, sy_dgq, sy_rsA, sy_rechk0, sy_rechk, sy_call, sy_dcall, sy_panic, panicR, sy_hideE, sy_blockP, sy_after, sy_afterp, sy_afterD, sy_afterDp, nilcR, convR, bndV_nat, bndV_none, sh_ptr, sh_ep, ld_ptr, ld_ep, lds_ptr, lds_ep, ptrS, buildR, bsliceR, partsA, aFill, Places.get, vc_agg, vr_agg, vc_sl, vc_ptr, vc_ep, vc_mp, vc_ms, vc_fn, vc_ifc, vc_int, vc_bool, vc_str, vc_nili, vc_nilp, vc_nilm, vc_nilf, vr_sl, vr_ptr, vr_ep, vr_mp, vr_ms, vr_fn, vr_ifc, vr_int, vr_bool, vr_str, vr_nili, vr_nilp, vr_nilm, vr_nilf, on_sl, on_ptr, on_ep, on_mp, on_ms, on_fn, on_ifc, on_int, on_bool, on_str, on_nili, on_nilp, on_nilm, on_nilf, setAt, aSeq, storeR, ix_sl, hd, hlt, mapPutR, mput, keyFit, lookupR, mgetR, mfind, keyEq, hflag, ha1, hc1]
      refine calls.mono (put_ok' t (bb := pre) (v := fl) (n := 1) rfl (by simp [CanApp]) (by omega) (by omega) (by omega)) ?_
      rintro o μ' ⟨rfl, rfl⟩
      simp [sy_seq, sy_region, sy_cons, sy_nil, sy_q, sy_n, sy_e, sy_gq, sy_put, sy_put0, sy_tmp, sy_int, sy_bool, sy_nilsl, sy_cond, sy_skip, sy_exit, sy_ret, sy_blockE, sy_blockR, QOp.sem, NOp.sem, EOp.sem, q, qg, qd, T, I, mv, sy_atL, sy_atL0, A0, cnd, rg, rsG, gdR, stripA, guardV, pickR, len_sl, len_ms, len_str, len_arr, unR, binR, ib_add, ib_sub, ib_mul, ib_quo, ib_rem, ib_eql, ib_neq, ib_lss, ib_leq, ib_gtr, ib_geq, is_shl, is_shr, bits64, sy_nili, sy_str, sy_nilp, sy_nilf, sy_nilmap, sy_slice, sy_draw, sy_dnil, sy_dcons, sy_dq, sy_dn, sy_de, sy_dgq, sy_rsA, sy_rechk0, sy_rechk, sy_call, sy_dcall, sy_panic, panicR, sy_hideE, sy_blockP, sy_after, sy_afterp, sy_afterD, sy_afterDp, nilcR, convR, bndV_nat, bndV_none, sh_ptr, sh_ep, ld_ptr, ld_ep, lds_ptr, lds_ep, ptrS, buildR, bsliceR, partsA, aFill, Places.get, vc_agg, vr_agg, vc_sl, vc_ptr, vc_ep, vc_mp, vc_ms, vc_fn, vc_ifc, vc_int, vc_bool, vc_str, vc_nili, vc_nilp, vc_nilm, vc_nilf, vr_sl, vr_ptr, vr_ep, vr_mp, vr_ms, vr_fn, vr_ifc, vr_int, vr_bool, vr_str, vr_nili, vr_nilp, vr_nilm, vr_nilf, on_sl, on_ptr, on_ep, on_mp, on_ms, on_fn, on_ifc, on_int, on_bool, on_str, on_nili, on_nilp, on_nilm, on_nilf, setAt, aSeq, storeR, appLv]
      refine calls.mono (put_ok' t (bb := pre ++ be 1 fl) (v := a) (n := 4) (by simp [be_len]) (by simp [CanApp]) (by omega) (by omega) (by omega)) ?_
      rintro o μ' ⟨rfl, rfl⟩
      simp [sy_seq, sy_region, sy_cons, sy_nil, sy_q, sy_n, sy_e, sy_gq, sy_put, sy_put0, sy_tmp, sy_int, sy_bool, sy_nilsl, sy_cond, sy_skip, sy_exit, sy_ret, sy_blockE, sy_blockR, QOp.sem, NOp.sem, EOp.sem, q, qg, qd, T, I, mv, sy_atL, sy_atL0, A0, cnd, rg, rsG, gdR, stripA, guardV, pickR, len_sl, len_ms, len_str, len_arr, unR, binR, ib_add, ib_sub, ib_mul, ib_quo, ib_rem, ib_eql, ib_neq, ib_lss, ib_leq, ib_gtr, ib_geq, is_shl, is_shr, bits64, sy_nili, sy_str, sy_nilp, sy_nilf, sy_nilmap, sy_slice, sy_draw, sy_dnil, sy_dcons, sy_dq, sy_dn, sy_de, sy_dgq, sy_rsA, sy_rechk0, sy_rechk, sy_call, sy_dcall, sy_panic, panicR, sy_hideE, sy_blockP, sy_after, sy_afterp, sy_afterD, sy_afterDp, nilcR, convR, bndV_nat, bndV_none, sh_ptr, sh_ep, ld_ptr, ld_ep, lds_ptr, lds_ep, ptrS, buildR, bsliceR, partsA, aFill, Places.get, vc_agg, vr_agg, vc_sl, vc_ptr, vc_ep, vc_mp, vc_ms, vc_fn, vc_ifc, vc_int, vc_bool, vc_str, vc_nili, vc_nilp, vc_nilm, vc_nilf, vr_sl, vr_ptr, vr_ep, vr_mp, vr_ms, vr_fn, vr_ifc, vr_int, vr_bool, vr_str, vr_nili, vr_nilp, vr_nilm, vr_nilf, on_sl, on_ptr, on_ep, on_mp, on_ms, on_fn, on_ifc, on_int, on_bool, on_str, on_nili, on_nilp, on_nilm, on_nilf, setAt, aSeq, storeR, appLv]
      refine calls.mono (put_ok' t (bb := pre ++ (be 1 fl ++ be 4 a)) (v := c) (n := 1) (by simp [be_len]) (by simp [CanApp]) (by omega) (by omega) (by omega)) ?_
      rintro o μ' ⟨rfl, rfl⟩
      simp [sy_seq, sy_region, sy_cons, sy_nil, sy_q, sy_n, sy_e, sy_gq, sy_put, sy_put0, sy_tmp, sy_int, sy_bool, sy_nilsl, sy_cond, sy_skip, sy_exit, sy_ret, sy_blockE, sy_blockR, QOp.sem, NOp.sem, EOp.sem, q, qg, qd, T, I, mv, sy_atL, sy_atL0, A0, cnd, rg, rsG, gdR, stripA, guardV, pickR, len_sl, len_ms, len_str, len_arr, unR, binR, ib_add, ib_sub, ib_mul, ib_quo, ib_rem, ib_eql, ib_neq, ib_lss, ib_leq, ib_gtr, ib_geq, is_shl, is_shr, bits64, sy_nili, sy_str, sy_nilp, sy_nilf, sy_nilmap, sy_slice, sy_draw, sy_dnil, sy_dcons, sy_dq, sy_dn, sy_de, sy_dgq, sy_rsA, sy_rechk0, sy_rechk, sy_call, sy_dcall, sy_panic, panicR, sy_hideE, sy_blockP, sy_after, sy_afterp, sy_afterD, sy_afterDp, nilcR, convR, bndV_nat, bndV_none, sh_ptr, sh_ep, ld_ptr, ld_ep, lds_ptr, lds_ep, ptrS, buildR, bsliceR, partsA, aFill, Places.get, vc_agg, vr_agg, vc_sl, vc_ptr, vc_ep, vc_mp, vc_ms, vc_fn, vc_ifc, vc_int, vc_bool, vc_str, vc_nili, vc_nilp, vc_nilm, vc_nilf, vr_sl, vr_ptr, vr_ep, vr_mp, vr_ms, vr_fn, vr_ifc, vr_int, vr_bool, vr_str, vr_nili, vr_nilp, vr_nilm, vr_nilf, on_sl, on_ptr, on_ep, on_mp, on_ms, on_fn, on_ifc, on_int, on_bool, on_str, on_nili, on_nilp, on_nilm, on_nilf, setAt, aSeq, storeR, appLv]
      refine calls.mono (put_ok' t (bb := pre ++ (be 1 fl ++ (be 4 a ++ be 1 c))) (v := x.bs.length) (n := 3) (by simp [be_len]) (by simp [CanApp]) (by omega) (by omega) (by omega)) ?_
      rintro o μ' ⟨rfl, rfl⟩
      have happ := fun (B : List ABlk) => app_sl (μ := ⟨B, [4], 5, gl, []⟩) (e := 5) (sz := 1) (bytes := 1) (n := pre.length + 1 + 4 + 1 + 3) (m := x.bs.length) (cs := aBytes (pre ++ (be 1 fl ++ (be 4 a ++ (be 1 c ++ be 3 x.bs.length))))) (ds := aBytes x.bs) (tk := .own 4 5) (tk' := .no)
        (by simp [CanApp]) (by rw [aBytes_length]; simp [be_len]) (by rw [aBytes_length, Nat.mul_one]) (by omega) (all_one_aBytes _)
      simp [sy_seq, sy_region, sy_cons, sy_nil, sy_q, sy_n, sy_e, sy_gq, sy_put, sy_put0, sy_tmp, sy_int, sy_bool, sy_nilsl, sy_cond, sy_skip, sy_exit, sy_ret, sy_blockE, sy_blockR, QOp.sem, NOp.sem, EOp.sem, q, qg, qd, T, I, mv, sy_atL, sy_atL0, A0, cnd, rg, rsG, gdR, stripA, guardV, pickR, len_sl, len_ms, len_str, len_arr, unR, binR, ib_add, ib_sub, ib_mul, ib_quo, ib_rem, ib_eql, ib_neq, ib_lss, ib_leq, ib_gtr, ib_geq, is_shl, is_shr, bits64, sy_nili, sy_str, sy_nilp, sy_nilf, sy_nilmap, sy_slice, sy_draw, sy_dnil, sy_dcons, sy_dq, sy_dn, sy_de, sy_dgq, sy_rsA, sy_rechk0, sy_rechk, sy_call, sy_dcall, sy_panic, panicR, sy_hideE, sy_blockP, sy_after, sy_afterp, sy_afterD, sy_afterDp, nilcR, convR, bndV_nat, bndV_none, sh_ptr, sh_ep, ld_ptr, ld_ep, lds_ptr, lds_ep, ptrS, buildR, bsliceR, partsA, aFill, Places.get, vc_agg, vr_agg, vc_sl, vc_ptr, vc_ep, vc_mp, vc_ms, vc_fn, vc_ifc, vc_int, vc_bool, vc_str, vc_nili, vc_nilp, vc_nilm, vc_nilf, vr_sl, vr_ptr, vr_ep, vr_mp, vr_ms, vr_fn, vr_ifc, vr_int, vr_bool, vr_str, vr_nili, vr_nilp, vr_nilm, vr_nilf, on_sl, on_ptr, on_ep, on_mp, on_ms, on_fn, on_ifc, on_int, on_bool, on_str, on_nili, on_nilp, on_nilm, on_nilf, setAt, aSeq, storeR, appLv, happ]
      refine ⟨i + 1, hlt, by omega, ?_⟩
      have hpre1 : encP ts (i + 1) = pre ++ encT x := by
        rw [← hpre, encP, encP, List.take_succ_eq_append_getElem hlt, hx]; simp
      rw [hpre1]
      have := Wk.gen (b := ⟨0, 0, none⟩) (l := [.cells 43 [.sl x.bs.length (aBytes x.bs) .no, .lit (.bool x.acc), .lit (.int .i64 (a : Nat)), .lit (.int .i64 (c : Nat))], .map .bool [(.bool true, .lit (.int .i64 1))]]) (l' := []) (lv := [5]) (nx := 6) (gl := gl) (df := []) [] [some 5] (L := [(4, .sl (pre ++ encT x).length (aBytes (pre ++ encT x)) (.own 0 5)), (20, .sl ts.length (tcells ts) .no), (21, .lit (.int .i64 (ts.length : Nat))), (22, .lit (.int .i64 ((i + 1 : Nat) : Int)))])
        (A := ?A2) (by simp) (by simp) List.nodup_nil (by simp) (.one _) (by simp) (.nil _) ?_
      · simpa using this
      · refine VWL.all ?_
        simp only [VWL]
        refine ⟨.sl' (tk := .own 5 5) ?_ ?_ ⟨rfl, by simp [ρG]⟩, .eq ?_ ?_, .eq ?_ ?_, .eq ?_ ?_, trivial⟩
        rotate_left
        all_goals simp [sy_seq, sy_region, sy_cons, sy_nil, sy_q, sy_n, sy_e, sy_gq, sy_put, sy_put0, sy_tmp, sy_int, sy_bool, sy_nilsl, sy_cond, sy_skip, sy_exit, sy_ret, sy_blockE, sy_blockR, QOp.sem, NOp.sem, EOp.sem, q, qg, qd, T, I, mv, sy_atL, sy_atL0, A0, cnd, rg, rsG, gdR, stripA, guardV, pickR, len_sl, len_ms, len_str, len_arr, unR, binR, ib_add, ib_sub, ib_mul, ib_quo, ib_rem, ib_eql, ib_neq, ib_lss, ib_leq, ib_gtr, ib_geq, is_shl, is_shr, bits64, Clean, Cleans_tcells, Cleans_aBytes]
        · simp only [IntKind.wrap_i64]; omega
        · rw [hex, aBytes_append, aBytes_append]
          refine ⟨by simp [be_len]; omega, by simp [aBytes]⟩
    · have hie : i = ts.length := by omega
      subst hie
      simp [sy_seq, sy_region, sy_cons, sy_nil, sy_q, sy_n, sy_e, sy_gq, sy_put, sy_put0, sy_tmp, sy_int, sy_bool, sy_nilsl, sy_cond, sy_skip, sy_exit, sy_ret, sy_blockE, sy_blockR, QOp.sem, NOp.sem, EOp.sem, q, qg, qd, T, I, mv, sy_atL, sy_atL0, A0, cnd, rg, rsG, gdR, stripA, guardV, pickR, len_sl, len_ms, len_str, len_arr, unR, binR, ib_add, ib_sub, ib_mul, ib_quo, ib_rem, ib_eql, ib_neq, ib_lss, ib_leq, ib_gtr, ib_geq, is_shl, is_shr, bits64, sy_nili, sy_str, sy_nilp, sy_nilf, sy_nilmap, sy_slice, sy_draw, sy_dnil, sy_dcons, sy_dq, sy_dn, sy_de, sy_dgq, sy_rsA, sy_rechk0, sy_rechk, sy_call, sy_dcall, sy_panic, panicR, sy_hideE, sy_blockP, sy_after, sy_afterp, sy_afterD, sy_afterDp, nilcR, convR, bndV_nat, bndV_none]
      refine ret0 rfl rfl (by simp [retVs]) ?_
      simp [retVs, oneOr, sy_seq, sy_region, sy_cons, sy_nil, sy_q, sy_n, sy_e, sy_gq, sy_put, sy_put0, sy_tmp, sy_int, sy_bool, sy_nilsl, sy_cond, sy_skip, sy_exit, sy_ret, sy_blockE, sy_blockR, QOp.sem, NOp.sem, EOp.sem, q, qg, qd, T, I, mv, sy_atL, sy_atL0, A0, cnd, rg, rsG, gdR, stripA, guardV, pickR, len_sl, len_ms, len_str, len_arr, unR, binR, ib_add, ib_sub, ib_mul, ib_quo, ib_rem, ib_eql, ib_neq, ib_lss, ib_leq, ib_gtr, ib_geq, is_shl, is_shr, bits64]
      have he : encAll ts = pre := by rw [← hpre, encP, List.take_length]; rfl
      rw [encV, if_neg (by rw [hr]; decide), he]
      exact .tup _ _ (.cons _ _ _ _ (.sl _ _ _ _ (Cleans_aBytes _) trivial) (.cons _ _ _ _ (.same _ trivial) .nil))
end Go.Proofs.YtjleeecaebgblaaGreatDoor.AL.K
namespace Go.Proofs.YtjleeecaebgblaaGreatDoor.AL.K
open Go Go.Proofs.YtjleeecaebgblaaGreatDoor.AL Go.RowKit
variable {P : Program} {gl : Nat → Option (List AVal)}
noncomputable def c11s : AFn := ⟨(.seq (.region [q 0 2 (.move (.const (.slice none 0 0))), q 1 3 (.move (.const (.bool false)))])
 (.seq (.seq (.region [q 0 9 (mv 0), q 1 10 (.len .sl (T 9)), q 2 11 (.bin .gtr .no (T 10) (I 65535))])
 (.cond (T 11) (.seq (.region [q 0 2 (.move (.const (.slice none 0 0))), q 1 3 (.move (.const (.bool false)))])
 .ret) .skip))
 (.seq (.region [⟨0, (some 12), none, (.n (.bslice 5 1 4 [(0, (.const (.int .u8 (.ofNat 80)))), (1, (.const (.int .u8 (.ofNat 66)))), (2, (.const (.int .u8 (.ofNat 67)))), (3, (.const (.int .u8 (.ofNat 49))))])), [], []⟩, ⟨1, (some 13), none, (.e (.mark (T 12))), [], []⟩, q 2 14 (mv 0), q 3 15 (.len .sl (T 14)), q 4 16 (.bin .quo .no (T 15) (I 256)), q 5 17 (.conv (.int .u8) (T 16)), q 6 18 (mv 0), q 7 19 (.len .sl (T 18)), q 8 20 (.bin .rem .no (T 19) (I 256)), q 9 21 (.conv (.int .u8) (T 20)), q 10 22 (.bslice 1 2 [(0, (T 17)), (1, (T 21))]), ⟨11, (some 23), none, (.e (.append 5 1 1 (T 13) (T 22))), [], []⟩, q 12 4 (mv 23)])
 (.seq (.seq (.region [q 0 5 (.move (I 0))])
 (.block 0 (.loop (.seq (.seq (.region [q 0 24 (mv 5), q 1 25 (mv 0), q 2 26 (.len .sl (T 25)), q 3 27 (.bin .lss .no (T 24) (T 26))])
 (.cond (T 27) .skip (.exit 0)))
 (.seq (.block 1 (.seq (.region [q 0 30 (mv 0), q 1 31 (mv 5), q 2 32 (.iaddr (.sl 43 4) (T 30) (T 31)), q 3 33 (.load (some 4) (T 32)), ⟨4, (some 6), none, (.n (.alloc 43 [(.sl 0 [] .full), (.lit (.bool false)), (.lit (.int .i64 (.ofNat 0))), (.lit (.int .i64 (.ofNat 0)))])), [], []⟩, ⟨5, none, none, (.e (.store 4 (T 6) (T 33))), [], []⟩])
 (.seq (.seq (.region [q 0 34 (.load (some 4) (T 6)), ⟨1, (some 35), none, (.call 21 [(T 34)]), [], []⟩, q 2 36 (.un .not (T 35))])
 (.cond (T 36) (.seq (.region [q 0 2 (.move (.const (.slice none 0 0))), q 1 3 (.move (.const (.bool false)))])
 .ret) .skip))
 (.seq (.region [q 0 7 (.move (.const (.int .u8 (.ofNat 0))))])
 (.seq (.seq (.region [q 0 37 (.faddr 1 (T 6)), q 1 38 (.load none (T 37))])
 (.cond (T 38) (.region [q 0 7 (.move (.const (.int .u8 (.ofNat 1))))]) .skip))
 (.seq (.region [q 0 39 (.faddr 0 (T 6)), q 1 40 (.load none (T 39)), q 2 41 (.len .sl (T 40)), q 3 8 (mv 41)])
 (.seq (.region [q 0 42 (mv 4), q 1 43 (mv 7), q 2 44 (.faddr 2 (T 6)), q 3 45 (.load none (T 44)), q 4 46 (.bin .shr .no (T 45) (.const (.int .u64 (.ofNat 24)))), q 5 47 (.conv (.int .u8) (T 46)), q 6 48 (.faddr 2 (T 6)), q 7 49 (.load none (T 48)), q 8 50 (.bin .shr .no (T 49) (.const (.int .u64 (.ofNat 16)))), q 9 51 (.conv (.int .u8) (T 50)), q 10 52 (.faddr 2 (T 6)), q 11 53 (.load none (T 52)), q 12 54 (.bin .shr .no (T 53) (.const (.int .u64 (.ofNat 8)))), q 13 55 (.conv (.int .u8) (T 54)), q 14 56 (.faddr 2 (T 6)), q 15 57 (.load none (T 56)), q 16 58 (.conv (.int .u8) (T 57)), q 17 59 (.faddr 3 (T 6)), q 18 60 (.load none (T 59)), q 19 61 (.conv (.int .u8) (T 60)), q 20 62 (mv 8), q 21 63 (.bin .shr .no (T 62) (.const (.int .u64 (.ofNat 16)))), q 22 64 (.conv (.int .u8) (T 63)), q 23 65 (mv 8), q 24 66 (.bin .shr .no (T 65) (.const (.int .u64 (.ofNat 8)))), q 25 67 (.conv (.int .u8) (T 66)), q 26 68 (mv 8), q 27 69 (.conv (.int .u8) (T 68)), q 28 70 (.bslice 1 9 [(0, (T 43)), (1, (T 47)), (2, (T 51)), (3, (T 55)), (4, (T 58)), (5, (T 61)), (6, (T 64)), (7, (T 67)), (8, (T 69))]), ⟨29, (some 71), none, (.e (.append 5 1 1 (T 42) (T 70))), [], []⟩, q 30 4 (mv 71)])
 (.region [q 0 72 (mv 4), q 1 73 (.faddr 0 (T 6)), q 2 74 (.load none (T 73)), ⟨3, (some 75), none, (.e (.append 5 1 1 (T 72) (T 74))), [], []⟩, q 4 4 (mv 75)]))))))))
 (.region [q 0 28 (mv 5), q 1 29 (.bin .add .no (T 28) (I 1)), q 2 5 (mv 29)]))))))
 (.seq (.region [q 0 76 (mv 4), q 1 2 (mv 76), q 2 3 (.move (.const (.bool true)))])
 .ret))))),
  77, [.tmp 2, .tmp 3]⟩
def encRV (ts : List Te) : AVal := if notR ts then .tup [.sl 0 [] .no, .lit (.bool false)] else .tup [.sl (encAll ts).length (aBytes (encAll ts)) .no, .lit (.bool true)]
theorem pow24 : (2 : Int) ^ (24 : Nat) = 16777216 := by
  have : (2 : Int) ^ (24 : Nat) = ((2 ^ 24 : Nat) : Int) := by rw [Int.natCast_pow]; rfl
  rw [this]; rfl
theorem pow16 : (2 : Int) ^ (16 : Nat) = 65536 := by
  have : (2 : Int) ^ (16 : Nat) = ((2 ^ 16 : Nat) : Int) := by rw [Int.natCast_pow]; rfl
  rw [this]; rfl
theorem shr24 (a : Int) : intShiftR .shr .i64 a 24 = ⟨(0 : Int) ≤ 24, .int .i64 (a.fdiv 16777216)⟩ := by
  rw [is_shr, show min (24 : Int).toNat IntKind.i64.bits = 24 from rfl, pow24]
theorem shr16 (a : Int) : intShiftR .shr .i64 a 16 = ⟨(0 : Int) ≤ 16, .int .i64 (a.fdiv 65536)⟩ := by
  rw [is_shr, show min (16 : Int).toNat IntKind.i64.bits = 16 from rfl, pow16]
theorem shr8 (a : Int) : intShiftR .shr .i64 a 8 = ⟨(0 : Int) ≤ 8, .int .i64 (a.fdiv 256)⟩ := by
  rw [is_shr, show min (8 : Int).toNat IntKind.i64.bits = 8 from rfl]; rfl
theorem bs24 (a : Nat) : IntKind.u8.wrap ((a : Int).fdiv 16777216) = ((beB a 3).toNat : Int) := by
  rw [Int.fdiv_eq_ediv_of_nonneg _ (by omega), IntKind.wrap_u8, beB, UInt8.toNat_ofNat']; omega
theorem bs16 (a : Nat) : IntKind.u8.wrap ((a : Int).fdiv 65536) = ((beB a 2).toNat : Int) := by
  rw [Int.fdiv_eq_ediv_of_nonneg _ (by omega), IntKind.wrap_u8, beB, UInt8.toNat_ofNat']; omega
theorem bs8 (a : Nat) : IntKind.u8.wrap ((a : Int).fdiv 256) = ((beB a 1).toNat : Int) := by
  rw [Int.fdiv_eq_ediv_of_nonneg _ (by omega), IntKind.wrap_u8, beB, UInt8.toNat_ofNat']; omega
theorem bs0 (a : Nat) : IntKind.u8.wrap (a : Int) = ((beB a 0).toNat : Int) := by
  rw [IntKind.wrap_u8, beB, UInt8.toNat_ofNat']; omega
theorem bq8 (a : Nat) (h : a < 65536) : IntKind.u8.wrap (IntKind.i64.wrap ((a : Int) / 256)) = ((beB a 1).toNat : Int) := by
  rw [IntWalk.i64_in _ (by omega), IntKind.wrap_u8, beB, UInt8.toNat_ofNat']; omega
theorem br0 (a : Nat) (h : a < 65536) : IntKind.u8.wrap ((a : Int).tmod 256) = ((beB a 0).toNat : Int) := by
  rw [Int.tmod_eq_emod_of_nonneg (by omega), IntKind.wrap_u8, beB, UInt8.toNat_ofNat']; omega
theorem be1 (v : Nat) : be 1 v = [beB v 0] := by
  simp only [be, show List.range 1 = [0] from rfl, List.map_cons, List.map_nil, Nat.reduceSub]
theorem be3 (v : Nat) : be 3 v = [beB v 2, beB v 1, beB v 0] := by
  simp only [be, show List.range 3 = [0, 1, 2] from rfl, List.map_cons, List.map_nil, Nat.reduceSub]
theorem be4 (v : Nat) : be 4 v = [beB v 3, beB v 2, beB v 1, beB v 0] := by
  simp only [be, show List.range 4 = [0, 1, 2, 3] from rfl, List.map_cons, List.map_nil, Nat.reduceSub]
theorem be2 (v : Nat) : be 2 v = [beB v 1, beB v 0] := by
  simp only [be, show List.range 2 = [0, 1] from rfl, List.map_cons, List.map_nil, Nat.reduceSub]
theorem rencode_ok (t : Tells P) (h11 : callable P 11 = true ∧ ∃ mu, mkFn P mu 11 = some c11s) (ts : List Te) (hf : few ts) : Pure P gl 11 [.sl ts.length (tcells ts) .no] (encRV ts) := by
  have hv : Clean 0 0 (encRV ts) := by unfold encRV; split <;> simp [Clean, Cleans, Cleans_aBytes]
  refine Pure.of t.m h11 (by simp [c11s]) hv (by simp [Cleans, Clean, Cleans_tcells]) ?_
  obtain ⟨h30, h200⟩ := hf
  have hb : ¬ (65535 : Int) < (ts.length : Nat) := by omega
  have happ0 := fun (B : List ABlk) => app_sl (μ := ⟨B, [], 0, gl, []⟩) (e := 5) (sz := 1) (bytes := 1) (n := 4) (m := 2) (cs := [.lit (.int .u8 80), .lit (.int .u8 66), .lit (.int .u8 67), .lit (.int .u8 49)]) (ds := [.lit (.int .u8 ((beB ts.length 1).toNat : Nat)), .lit (.int .u8 ((beB ts.length 0).toNat : Nat))]) (tk := .full) (tk' := .full)
    trivial rfl rfl (by omega) rfl
  have hpl : ∀ i, i ≤ ts.length → (encP ts i).length ≤ 10000 := fun i hi => by
    unfold encP
    have := flat_len (ts := ts.take i) fun x hx => h200 x (List.mem_of_mem_take hx)
    simp only [List.length_append, be_len, List.length_take, List.length_cons, List.length_nil] at this ⊢
    omega
  simp only [c11s]
  simp [sy_seq, sy_region, sy_cons, sy_nil, sy_q, sy_n, sy_e, sy_gq, sy_put, sy_put0, sy_tmp, sy_int, sy_bool, sy_nilsl, sy_cond, sy_skip, sy_exit, sy_ret, sy_blockE, sy_blockR, QOp.sem, NOp.sem, EOp.sem, q, qg, qd, T, I, mv, sy_atL, sy_atL0, A0, cnd, rg, rsG, gdR, stripA, guardV, pickR, len_sl, len_ms, len_str, len_arr, unR, binR, ib_add, ib_sub, ib_mul, ib_quo, ib_rem, ib_eql, ib_neq, ib_lss, ib_leq, ib_gtr, ib_geq, is_shl, is_shr, bits64, sy_nili, sy_str, sy_nilp, sy_nilf, sy_nilmap, sy_slice, sy_draw, sy_dnil, sy_dcons, sy_dq, sy_dn, sy_de, sy_dgq, sy_rsA, sy_rechk0, sy_rechk, sy_call, sy_dcall, sy_panic, panicR, sy_hideE, sy_blockP, sy_after, sy_afterp, sy_afterD, sy_afterDp, nilcR, convR, bndV_nat, bndV_none, buildR, bsliceR, partsA, aFill, Places.get, vc_agg, vr_agg, vc_sl, vc_ptr, vc_ep, vc_mp, vc_ms, vc_fn, vc_ifc, vc_int, vc_bool, vc_str, vc_nili, vc_nilp, vc_nilm, vc_nilf, vr_sl, vr_ptr, vr_ep, vr_mp, vr_ms, vr_fn, vr_ifc, vr_int, vr_bool, vr_str, vr_nili, vr_nilp, vr_nilm, vr_nilf, on_sl, on_ptr, on_ep, on_mp, on_ms, on_fn, on_ifc, on_int, on_bool, on_str, on_nili, on_nilp, on_nilm, on_nilf, setAt, aSeq, storeR, hb, partsA, markR, bq8 ts.length (by omega), br0 ts.length (by omega), happ0, appLv]
  rw [sy_block]
  refine sy_loopL (fun i => i ≤ ts.length ∧ ∀ j (h : j < ts.length), j < i → ts[j].right = true) (fun i => [(0, .sl ts.length (tcells ts) .no), (4, .sl (encP ts i).length (aBytes (encP ts i)) (.own 0 5)), (5, .lit (.int .i64 (i : Nat)))])
    (fun _ => ⟨[], [0], 1, gl, []⟩) (fun i => ts.length - i) 0 ⟨Nat.zero_le _, fun j _ h => absurd h (Nat.not_lt_zero _)⟩ ?_ ?_
  · have := Wk.gen (b := ⟨0, 0, none⟩) (l := [.dead]) (l' := []) (lv := [0]) (nx := 1) (gl := gl) (df := []) [] [some 0] (L := [(0, .sl ts.length (tcells ts) .no), (4, .sl (encP ts 0).length (aBytes (encP ts 0)) (.own 0 5)), (5, .lit (.int .i64 0))])
      (A := ?A) (by simp) (by simp) List.nodup_nil (by simp) (.one _) (by simp) (.nil _) ?_
    · simpa using this
    · refine VWL.all ?_
      simp only [VWL]
      refine ⟨.eq ?_ ?_, .sl' (tk := .own 0 5) ?_ ?_ ⟨rfl, by simp [ρG]⟩, .eq ?_ ?_, trivial⟩ <;> simp [sy_seq, sy_region, sy_cons, sy_nil, sy_q, sy_n, sy_e, sy_gq, sy_put, sy_put0, sy_tmp, sy_int, sy_bool, sy_nilsl, sy_cond, sy_skip, sy_exit, sy_ret, sy_blockE, sy_blockR, QOp.sem, NOp.sem, EOp.sem, q, qg, qd, T, I, mv, sy_atL, sy_atL0, A0, cnd, rg, rsG, gdR, stripA, guardV, pickR, len_sl, len_ms, len_str, len_arr, unR, binR, ib_add, ib_sub, ib_mul, ib_quo, ib_rem, ib_eql, ib_neq, ib_lss, ib_leq, ib_gtr, ib_geq, is_shl, is_shr, bits64, Clean, Cleans_tcells, Cleans_aBytes, encP, be_len, be2, aBytes, Cleans]
  · rintro i ⟨hi, hall⟩
    generalize hpre : encP ts i = pre
    have hprel : pre.length ≤ 10000 := by rw [← hpre]; exact hpl i hi
    by_cases hlt : i < ts.length
    · have hd := tcells_at hlt
      have hbl := h200 _ (List.getElem_mem hlt)
      have hr := right21 (gl := gl) t ts[i]
      unfold Pure at hr
      simp only [Te.cells] at hr
      simp [sy_seq, sy_region, sy_cons, sy_nil, sy_q, sy_n, sy_e, sy_gq, sy_put, sy_put0, sy_tmp, sy_int, sy_bool, sy_nilsl, sy_cond, sy_skip, sy_exit, sy_ret, sy_blockE, sy_blockR, QOp.sem, NOp.sem, EOp.sem, q, qg, qd, T, I, mv, sy_atL, sy_atL0, A0, cnd, rg, rsG, gdR, stripA, guardV, pickR, len_sl, len_ms, len_str, len_arr, unR, binR, ib_add, ib_sub, ib_mul, ib_quo, ib_rem, ib_eql, ib_neq, ib_lss, ib_leq, ib_gtr, ib_geq, is_shl, is_shr, bits64, sy_nili, sy_str, sy_nilp, sy_nilf, sy_nilmap, sy_slice, sy_draw, sy_dnil, sy_dcons, sy_dq, sy_dn, sy_de, sy_dgq, sy_rsA, sy_rechk0, sy_rechk, sy_call, sy_dcall, sy_panic, panicR, sy_hideE, sy_blockP, sy_after, sy_afterp, sy_afterD, sy_afterDp, nilcR, convR, bndV_nat, bndV_none, hlt]
      rw [sy_block]
      simp [sy_seq, sy_region, sy_cons, sy_nil, sy_q, sy_n, sy_e, sy_gq, sy_put, sy_put0, sy_tmp, sy_int, sy_bool, sy_nilsl, sy_cond, sy_skip, sy_exit, sy_ret, sy_blockE, sy_blockR, QOp.sem, NOp.sem, EOp.sem, q, qg, qd, T, I, mv, sy_atL, sy_atL0, A0, cnd, rg, rsG, gdR, stripA, guardV, pickR, len_sl, len_ms, len_str, len_arr, unR, binR, ib_add, ib_sub, ib_mul, ib_quo, ib_rem, ib_eql, ib_neq, ib_lss, ib_leq, ib_gtr, ib_geq, is_shl, is_shr, bits64, sy_nili, sy_str, sy_nilp, sy_nilf, sy_nilmap, sy_slice, sy_draw, sy_dnil, sy_dcons, sy_dq, sy_dn, sy_de, sy_dgq, sy_rsA, sy_rechk0, sy_rechk, sy_call, sy_dcall, sy_panic, panicR, sy_hideE, sy_blockP, sy_after, sy_afterp, sy_afterD, sy_afterDp, nilcR, convR, bndV_nat, bndV_none, sh_ptr, sh_ep, ld_ptr, ld_ep, lds_ptr, lds_ep, ptrS, buildR, bsliceR, partsA, aFill, Places.get, vc_agg, vr_agg, vc_sl, vc_ptr, vc_ep, vc_mp, vc_ms, vc_fn, vc_ifc, vc_int, vc_bool, vc_str, vc_nili, vc_nilp, vc_nilm, vc_nilf, vr_sl, vr_ptr, vr_ep, vr_mp, vr_ms, vr_fn, vr_ifc, vr_int, vr_bool, vr_str, vr_nili, vr_nilp, vr_nilm, vr_nilf, on_sl, on_ptr, on_ep, on_mp, on_ms, on_fn, on_ifc, on_int, on_bool, on_str, on_nili, on_nilp, on_nilm, on_nilf, setAt, aSeq, storeR, ix_sl, hd, hlt]
      refine (hr _ rfl).ret ?_
      simp only [sy_cons, sy_nil, sy_q, QOp.sem, sy_tmp, sy_put, unR, Nat.reduceEqDiff, reduceIte, true_and]
      rw [sy_cond]
      simp only [sy_tmp, sy_put, reduceIte, cnd, Bool.not_eq_true', Bool.not_eq_false']
      refine ⟨fun hbad => ?_, fun hgood => ?_⟩
      · have hn : notR ts = true := List.any_eq_true.2 ⟨ts[i], List.getElem_mem _, by simp [hbad]⟩
        simp [sy_seq, sy_region, sy_cons, sy_nil, sy_q, sy_n, sy_e, sy_gq, sy_put, sy_put0, sy_tmp, sy_int, sy_bool, sy_nilsl, sy_cond, sy_skip, sy_exit, sy_ret, sy_blockE, sy_blockR, QOp.sem, NOp.sem, EOp.sem, q, qg, qd, T, I, mv, sy_atL, sy_atL0, A0, cnd, rg, rsG, gdR, stripA, guardV, pickR, len_sl, len_ms, len_str, len_arr, unR, binR, ib_add, ib_sub, ib_mul, ib_quo, ib_rem, ib_eql, ib_neq, ib_lss, ib_leq, ib_gtr, ib_geq, is_shl, is_shr, bits64, sy_nili, sy_str, sy_nilp, sy_nilf, sy_nilmap, sy_slice, sy_draw, sy_dnil, sy_dcons, sy_dq, sy_dn, sy_de, sy_dgq, sy_rsA, sy_rechk0, sy_rechk, sy_call, sy_dcall, sy_panic, panicR, sy_hideE, sy_blockP, sy_after, sy_afterp, sy_afterD, sy_afterDp, nilcR, convR, bndV_nat, bndV_none]
        refine ret0 rfl rfl (by simp [retVs]) ?_
        simp [retVs, oneOr, sy_seq, sy_region, sy_cons, sy_nil, sy_q, sy_n, sy_e, sy_gq, sy_put, sy_put0, sy_tmp, sy_int, sy_bool, sy_nilsl, sy_cond, sy_skip, sy_exit, sy_ret, sy_blockE, sy_blockR, QOp.sem, NOp.sem, EOp.sem, q, qg, qd, T, I, mv, sy_atL, sy_atL0, A0, cnd, rg, rsG, gdR, stripA, guardV, pickR, len_sl, len_ms, len_str, len_arr, unR, binR, ib_add, ib_sub, ib_mul, ib_quo, ib_rem, ib_eql, ib_neq, ib_lss, ib_leq, ib_gtr, ib_geq, is_shl, is_shr, bits64]
        rw [encRV, if_pos hn]
        exact .tup _ _ (.cons _ _ _ _ (.sl _ _ _ _ trivial trivial) (.cons _ _ _ _ (.same _ trivial) .nil))
      obtain ⟨ha1, ha2, hc1, hc2⟩ := right_at hgood
      have hex0 : encT ts[i] = be 1 (if ts[i].acc then 1 else 0) ++ be 4 ts[i].at_.toNat ++ be 1 ts[i].code.toNat ++ be 3 ts[i].bs.length ++ ts[i].bs := by simp only [encT]
      have hpre1 : encP ts (i + 1) = pre ++ encT ts[i] := by
        rw [← hpre, encP, encP, List.take_succ_eq_append_getElem hlt]
        simp only [List.flatMap_append, List.flatMap_cons, List.flatMap_nil, List.append_nil, List.append_assoc]
      rw [hex0] at hpre1
      generalize hx : ts[i] = x at hd ha1 ha2 hc1 hc2 hbl hgood hpre1
      generalize x.at_.toNat = a at ha1 ha2 hpre1
      generalize x.code.toNat = c at hc1 hc2 hpre1
      generalize hfe : (if x.acc then 1 else 0 : Nat) = fl at hpre1
      have hnx : ∀ {j : Nat} (h : j < ts.length), j < i + 1 → ts[j].right = true := fun {j} h hj => by
        rcases Nat.lt_succ_iff_lt_or_eq.1 hj with h1 | h1
        · exact hall j h h1
        · subst h1; rw [hx]; exact hgood
      have hbe : be 1 fl ++ be 4 a ++ be 1 c ++ be 3 x.bs.length = [beB fl 0, beB a 3, beB a 2, beB a 1, beB a 0, beB c 0, beB x.bs.length 2, beB x.bs.length 1, beB x.bs.length 0] := by
        rw [be1, be1, be4, be3]; rfl
      have happ1 := fun (B : List ABlk) => app_sl (μ := ⟨B, [0], 1, gl, []⟩) (e := 5) (sz := 1) (bytes := 1) (n := pre.length) (m := 9) (cs := aBytes pre) (ds := aBytes [beB fl 0, beB a 3, beB a 2, beB a 1, beB a 0, beB c 0, beB x.bs.length 2, beB x.bs.length 1, beB x.bs.length 0]) (tk := .own 0 5) (tk' := .full)
        (by simp [CanApp]) (by rw [aBytes_length, Nat.mul_one]) rfl (by omega) (all_one_aBytes _)
      have happ2 := fun (B : List ABlk) => app_sl (μ := ⟨B, [1], 2, gl, []⟩) (e := 5) (sz := 1) (bytes := 1) (n := pre.length + 9) (m := x.bs.length) (cs := aBytes pre ++ aBytes [beB fl 0, beB a 3, beB a 2, beB a 1, beB a 0, beB c 0, beB x.bs.length 2, beB x.bs.length 1, beB x.bs.length 0]) (ds := aBytes x.bs) (tk := .own 1 5) (tk' := .no)
        (by simp [CanApp]) (by simp [aBytes_length]) (by rw [aBytes_length, Nat.mul_one]) (by omega) (all_one_aBytes _)
      simp only [aBytes_cons, aBytes_nil] at happ1 happ2
      have key : ∀ (B : List ABlk) (A : ATmps), A 0 = .sl ts.length (tcells ts) .no → A 4 = .sl (pre.length + 9 + x.bs.length) (aBytes pre ++ aBytes [beB fl 0, beB a 3, beB a 2, beB a 1, beB a 0, beB c 0, beB x.bs.length 2, beB x.bs.length 1, beB x.bs.length 0] ++ aBytes x.bs) (.own 2 5) → A 5 = .lit (.int .i64 ((i + 1 : Nat) : Int)) →
          Wk ⟨0, 0, none⟩ A ⟨B, [2], 3, gl, []⟩ (atL [(0, .sl ts.length (tcells ts) .no), (4, .sl (encP ts (i + 1)).length (aBytes (encP ts (i + 1))) (.own 0 5)), (5, .lit (.int .i64 ((i + 1 : Nat) : Int)))]) ⟨[], [0], 1, gl, []⟩ := by
        intro B A h0 h4 h5
        have hl : (encP ts (i + 1)).length = pre.length + 9 + x.bs.length := by
          rw [hpre1, hbe]; simp; omega
        have := Wk.gen (b := ⟨0, 0, none⟩) (l := B) (l' := []) (lv := [2]) (nx := 3) (gl := gl) (df := []) [] [some 2] (L := [(0, .sl ts.length (tcells ts) .no), (4, .sl (encP ts (i + 1)).length (aBytes (encP ts (i + 1))) (.own 0 5)), (5, .lit (.int .i64 ((i + 1 : Nat) : Int)))])
          (A := A) (by simp) (by simp) List.nodup_nil (by simp) (.one _) (by simp) (.nil _) ?_
        · simpa using this
        · refine VWL.all ?_
          simp only [VWL]
          refine ⟨.eq h0 (by simp [Clean, Cleans_tcells]), .sl' (tk := .own 2 5) ?_ (Cleans_aBytes _) ⟨rfl, by simp [ρG]⟩, .eq h5 (by simp [Clean]), trivial⟩
          rw [h4, hl, hpre1, hbe, aBytes_append, aBytes_append, ← List.append_assoc]
      cases hacc : x.acc
      · rw [hacc] at hfe
        simp at hfe
        subst hfe
        have hb0 : ((beB 0 0).toNat : Int) = 0 := rfl
        simp only [hb0] at happ1 happ2
        rw [sy_skip, sy_seq, sy_region]
        simp only [sy_cons, sy_nil, sy_q, QOp.sem, sy_tmp, sy_put, sy_int, q, T, mv, Nat.reduceEqDiff, reduceIte, true_and, sh_ptr, sh_ep, ld_ptr, ld_ep, lds_ptr, lds_ep, ptrS, List.getElem?_cons_zero, len_sl]
        rw [sy_seq, sy_seq, sy_region]
        simp [sy_cons, sy_nil, sy_q, QOp.sem, sy_tmp, sy_put, sh_ptr, sh_ep, ld_ptr, ld_ep, lds_ptr, lds_ep, ptrS, hacc]
        rw [sy_cond]
        simp [sy_tmp, sy_put, cnd]
        rw [sy_skip, sy_seq, sy_region]
        simp [sy_cons, sy_nil, sy_q, QOp.sem, sy_tmp, sy_put, sh_ptr, sh_ep, ld_ptr, ld_ep, lds_ptr, lds_ep, ptrS, len_sl]
        rw [sy_seq, sy_region]
        simp [sy_seq, sy_region, sy_cons, sy_nil, sy_q, sy_n, sy_e, sy_gq, sy_put, sy_put0, sy_tmp, sy_int, sy_bool, sy_nilsl, sy_cond, sy_skip, sy_exit, sy_ret, sy_blockE, sy_blockR, QOp.sem, NOp.sem, EOp.sem, q, qg, qd, T, I, mv, sy_atL, sy_atL0, A0, cnd, rg, rsG, gdR, stripA, guardV, pickR, len_sl, len_ms, len_str, len_arr, unR, binR, ib_add, ib_sub, ib_mul, ib_quo, ib_rem, ib_eql, ib_neq, ib_lss, ib_leq, ib_gtr, ib_geq, bits64, sy_nili, sy_str, sy_nilp, sy_nilf, sy_nilmap, sy_slice, sy_draw, sy_dnil, sy_dcons, sy_dq, sy_dn, sy_de, sy_dgq, sy_rsA, sy_rechk0, sy_rechk, sy_call, sy_dcall, sy_panic, panicR, sy_hideE, sy_blockP, sy_after, sy_afterp, sy_afterD, sy_afterDp, nilcR, convR, bndV_nat, bndV_none, sh_ptr, sh_ep, ld_ptr, ld_ep, lds_ptr, lds_ep, ptrS, buildR, bsliceR, partsA, aFill, Places.get, vc_agg, vr_agg, vc_sl, vc_ptr, vc_ep, vc_mp, vc_ms, vc_fn, vc_ifc, vc_int, vc_bool, vc_str, vc_nili, vc_nilp, vc_nilm, vc_nilf, vr_sl, vr_ptr, vr_ep, vr_mp, vr_ms, vr_fn, vr_ifc, vr_int, vr_bool, vr_str, vr_nili, vr_nilp, vr_nilm, vr_nilf, on_sl, on_ptr, on_ep, on_mp, on_ms, on_fn, on_ifc, on_int, on_bool, on_str, on_nili, on_nilp, on_nilm, on_nilf, setAt, aSeq, storeR, ha1, hc1, shr24, shr16, shr8, bs24, bs16, bs8, bs0, happ1, happ2, appLv]
        refine ⟨i + 1, ⟨hlt, fun j h hj => hnx h hj⟩, by omega, ?_⟩
        refine key _ _ (by simp [sy_seq, sy_region, sy_cons, sy_nil, sy_q, sy_n, sy_e, sy_gq, sy_put, sy_put0, sy_tmp, sy_int, sy_bool, sy_nilsl, sy_cond, sy_skip, sy_exit, sy_ret, sy_blockE, sy_blockR, QOp.sem, NOp.sem, EOp.sem, q, qg, qd, T, I, mv, sy_atL, sy_atL0, A0, cnd, rg, rsG, gdR, stripA, guardV, pickR, len_sl, len_ms, len_str, len_arr, unR, binR, ib_add, ib_sub, ib_mul, ib_quo, ib_rem, ib_eql, ib_neq, ib_lss, ib_leq, ib_gtr, ib_geq, bits64]) ?_ ?_
        · simp [sy_seq, sy_region, sy_cons, sy_nil, sy_q, sy_n, sy_e, sy_gq, sy_put, sy_put0, sy_tmp, sy_int, sy_bool, sy_nilsl, sy_cond, sy_skip, sy_exit, sy_ret, sy_blockE, sy_blockR, QOp.sem, NOp.sem, EOp.sem, q, qg, qd, T, I, mv, sy_atL, sy_atL0, A0, cnd, rg, rsG, gdR, stripA, guardV, pickR, len_sl, len_ms, len_str, len_arr, unR, binR, ib_add, ib_sub, ib_mul, ib_quo, ib_rem, ib_eql, ib_neq, ib_lss, ib_leq, ib_gtr, ib_geq, bits64, aBytes_cons, aBytes_nil, hb0]
        · simp [sy_seq, sy_region, sy_cons, sy_nil, sy_q, sy_n, sy_e, sy_gq, sy_put, sy_put0, sy_tmp, sy_int, sy_bool, sy_nilsl, sy_cond, sy_skip, sy_exit, sy_ret, sy_blockE, sy_blockR, QOp.sem, NOp.sem, EOp.sem, q, qg, qd, T, I, mv, sy_atL, sy_atL0, A0, cnd, rg, rsG, gdR, stripA, guardV, pickR, len_sl, len_ms, len_str, len_arr, unR, binR, ib_add, ib_sub, ib_mul, ib_quo, ib_rem, ib_eql, ib_neq, ib_lss, ib_leq, ib_gtr, ib_geq, bits64]
          simp only [IntKind.wrap_i64]; omega
      · rw [hacc] at hfe
        simp at hfe
        subst hfe
        have hb0 : ((beB 1 0).toNat : Int) = 1 := rfl
        simp only [hb0] at happ1 happ2
        rw [sy_skip, sy_seq, sy_region]
        simp only [sy_cons, sy_nil, sy_q, QOp.sem, sy_tmp, sy_put, sy_int, q, T, mv, Nat.reduceEqDiff, reduceIte, true_and, sh_ptr, sh_ep, ld_ptr, ld_ep, lds_ptr, lds_ep, ptrS, List.getElem?_cons_zero, len_sl]
        rw [sy_seq, sy_seq, sy_region]
        simp [sy_cons, sy_nil, sy_q, QOp.sem, sy_tmp, sy_put, sh_ptr, sh_ep, ld_ptr, ld_ep, lds_ptr, lds_ep, ptrS, hacc]
        rw [sy_cond]
        simp [sy_tmp, sy_put, cnd]
        rw [sy_region]
        simp [sy_cons, sy_nil, sy_q, QOp.sem, sy_tmp, sy_put, sy_int, sh_ptr, sh_ep, ld_ptr, ld_ep, lds_ptr, lds_ep, ptrS, len_sl]
        rw [sy_seq, sy_region]
        simp [sy_cons, sy_nil, sy_q, QOp.sem, sy_tmp, sy_put, sh_ptr, sh_ep, ld_ptr, ld_ep, lds_ptr, lds_ep, ptrS, len_sl]
        rw [sy_seq, sy_region]
        simp [sy_seq, sy_region, sy_cons, sy_nil, sy_q, sy_n, sy_e, sy_gq, sy_put, sy_put0, sy_tmp, sy_int, sy_bool, sy_nilsl, sy_cond, sy_skip, sy_exit, sy_ret, sy_blockE, sy_blockR, QOp.sem, NOp.sem, EOp.sem, q, qg, qd, T, I, mv, sy_atL, sy_atL0, A0, cnd, rg, rsG, gdR, stripA, guardV, pickR, len_sl, len_ms, len_str, len_arr, unR, binR, ib_add, ib_sub, ib_mul, ib_quo, ib_rem, ib_eql, ib_neq, ib_lss, ib_leq, ib_gtr, ib_geq, bits64, sy_nili, sy_str, sy_nilp, sy_nilf, sy_nilmap, sy_slice, sy_draw, sy_dnil, sy_dcons, sy_dq, sy_dn, sy_de, sy_dgq, sy_rsA, sy_rechk0, sy_rechk, sy_call, sy_dcall, sy_panic, panicR, sy_hideE, sy_blockP, sy_after, sy_afterp, sy_afterD, sy_afterDp, nilcR, convR, bndV_nat, bndV_none, sh_ptr, sh_ep, ld_ptr, ld_ep, lds_ptr, lds_ep, ptrS, buildR, bsliceR, partsA, aFill, Places.get, vc_agg, vr_agg, vc_sl, vc_ptr, vc_ep, vc_mp, vc_ms, vc_fn, vc_ifc, vc_int, vc_bool, vc_str, vc_nili, vc_nilp, vc_nilm, vc_nilf, vr_sl, vr_ptr, vr_ep, vr_mp, vr_ms, vr_fn, vr_ifc, vr_int, vr_bool, vr_str, vr_nili, vr_nilp, vr_nilm, vr_nilf, on_sl, on_ptr, on_ep, on_mp, on_ms, on_fn, on_ifc, on_int, on_bool, on_str, on_nili, on_nilp, on_nilm, on_nilf, setAt, aSeq, storeR, ha1, hc1, shr24, shr16, shr8, bs24, bs16, bs8, bs0, happ1, happ2, appLv]
        refine ⟨i + 1, ⟨hlt, fun j h hj => hnx h hj⟩, by omega, ?_⟩
        refine key _ _ (by simp [sy_seq, sy_region, sy_cons, sy_nil, sy_q, sy_n, sy_e, sy_gq, sy_put, sy_put0, sy_tmp, sy_int, sy_bool, sy_nilsl, sy_cond, sy_skip, sy_exit, sy_ret, sy_blockE, sy_blockR, QOp.sem, NOp.sem, EOp.sem, q, qg, qd, T, I, mv, sy_atL, sy_atL0, A0, cnd, rg, rsG, gdR, stripA, guardV, pickR, len_sl, len_ms, len_str, len_arr, unR, binR, ib_add, ib_sub, ib_mul, ib_quo, ib_rem, ib_eql, ib_neq, ib_lss, ib_leq, ib_gtr, ib_geq, bits64]) ?_ ?_
        · simp [sy_seq, sy_region, sy_cons, sy_nil, sy_q, sy_n, sy_e, sy_gq, sy_put, sy_put0, sy_tmp, sy_int, sy_bool, sy_nilsl, sy_cond, sy_skip, sy_exit, sy_ret, sy_blockE, sy_blockR, QOp.sem, NOp.sem, EOp.sem, q, qg, qd, T, I, mv, sy_atL, sy_atL0, A0, cnd, rg, rsG, gdR, stripA, guardV, pickR, len_sl, len_ms, len_str, len_arr, unR, binR, ib_add, ib_sub, ib_mul, ib_quo, ib_rem, ib_eql, ib_neq, ib_lss, ib_leq, ib_gtr, ib_geq, bits64, aBytes_cons, aBytes_nil, hb0]
        · simp [sy_seq, sy_region, sy_cons, sy_nil, sy_q, sy_n, sy_e, sy_gq, sy_put, sy_put0, sy_tmp, sy_int, sy_bool, sy_nilsl, sy_cond, sy_skip, sy_exit, sy_ret, sy_blockE, sy_blockR, QOp.sem, NOp.sem, EOp.sem, q, qg, qd, T, I, mv, sy_atL, sy_atL0, A0, cnd, rg, rsG, gdR, stripA, guardV, pickR, len_sl, len_ms, len_str, len_arr, unR, binR, ib_add, ib_sub, ib_mul, ib_quo, ib_rem, ib_eql, ib_neq, ib_lss, ib_leq, ib_gtr, ib_geq, bits64]
          simp only [IntKind.wrap_i64]; omega
    · have hie : i = ts.length := by omega
      subst hie
      have hn : notR ts = false := by
        refine List.any_eq_false.2 fun x hx => ?_
        obtain ⟨j, hj, rfl⟩ := List.getElem_of_mem hx
        simp [hall j hj hj]
      simp [sy_seq, sy_region, sy_cons, sy_nil, sy_q, sy_n, sy_e, sy_gq, sy_put, sy_put0, sy_tmp, sy_int, sy_bool, sy_nilsl, sy_cond, sy_skip, sy_exit, sy_ret, sy_blockE, sy_blockR, QOp.sem, NOp.sem, EOp.sem, q, qg, qd, T, I, mv, sy_atL, sy_atL0, A0, cnd, rg, rsG, gdR, stripA, guardV, pickR, len_sl, len_ms, len_str, len_arr, unR, binR, ib_add, ib_sub, ib_mul, ib_quo, ib_rem, ib_eql, ib_neq, ib_lss, ib_leq, ib_gtr, ib_geq, is_shl, is_shr, bits64, sy_nili, sy_str, sy_nilp, sy_nilf, sy_nilmap, sy_slice, sy_draw, sy_dnil, sy_dcons, sy_dq, sy_dn, sy_de, sy_dgq, sy_rsA, sy_rechk0, sy_rechk, sy_call, sy_dcall, sy_panic, panicR, sy_hideE, sy_blockP, sy_after, sy_afterp, sy_afterD, sy_afterDp, nilcR, convR, bndV_nat, bndV_none]
      refine ret0 rfl rfl (by simp [retVs]) ?_
      simp [retVs, oneOr, sy_seq, sy_region, sy_cons, sy_nil, sy_q, sy_n, sy_e, sy_gq, sy_put, sy_put0, sy_tmp, sy_int, sy_bool, sy_nilsl, sy_cond, sy_skip, sy_exit, sy_ret, sy_blockE, sy_blockR, QOp.sem, NOp.sem, EOp.sem, q, qg, qd, T, I, mv, sy_atL, sy_atL0, A0, cnd, rg, rsG, gdR, stripA, guardV, pickR, len_sl, len_ms, len_str, len_arr, unR, binR, ib_add, ib_sub, ib_mul, ib_quo, ib_rem, ib_eql, ib_neq, ib_lss, ib_leq, ib_gtr, ib_geq, is_shl, is_shr, bits64]
      have he : encAll ts = pre := by rw [← hpre, encP, List.take_length]; rfl
      rw [encRV, if_neg (by rw [hn]; decide), he]
      exact .tup _ _ (.cons _ _ _ _ (.sl _ _ _ _ (Cleans_aBytes _) trivial) (.cons _ _ _ _ (.same _ trivial) .nil))
end Go.Proofs.YtjleeecaebgblaaGreatDoor.AL.K
