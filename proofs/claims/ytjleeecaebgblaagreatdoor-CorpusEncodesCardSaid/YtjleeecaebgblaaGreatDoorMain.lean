/- For every input phrasebooklaw42.CorpusEncodes returns true and its argument reads behind the call as it read before; the listed package-level variables hold what the program's text lays (the card ties them). -/
import Derived.Test.YtjleeecaebgblaaGreatDoorL3
import Derived.Test.YtjleeecaebgblaaGreatDoorK7
import Derived.Test.YtjleeecaebgblaaGreatDoorB4
import Derived.Test.YtjleeecaebgblaaGreatDoorRows
import Derived.Test.YtjleeecaebgblaaGreatDoorCards
import Derived.Test.YtjleeecaebgblaaGreatDoorTie
import Derived.ProofKit
import Derived.Carry
import Derived.Lay
import Derived.SevenTiedAt
import Derived.Stop.Joined
import Derived.Test.YtjleeecaebgblaaGreatDoorL5
set_option linter.all false
namespace Go.Proofs.YtjleeecaebgblaaGreatDoor.AL.K
open Go Go.Proofs.YtjleeecaebgblaaGreatDoor.AL Go.RowKit
theorem beB_nat (v i : Nat) : (beB v i).toNat = v / 256 ^ i % 256 := by rw [beB, UInt8.toNat_ofNat']
theorem gN_be1 {v : Nat} (h : v < 256) : gN (be 1 v) = v := by
  rw [be1]; simp only [gN, List.foldl_cons, List.foldl_nil, beB_nat]; omega
theorem gN_be2 {v : Nat} (h : v < 65536) : gN (be 2 v) = v := by
  rw [be2]; simp only [gN, List.foldl_cons, List.foldl_nil, beB_nat]; omega
theorem gN_be3 {v : Nat} (h : v < 16777216) : gN (be 3 v) = v := by
  rw [be3]; simp only [gN, List.foldl_cons, List.foldl_nil, beB_nat]; omega
theorem gN_be4 {v : Nat} (h : v < 4294967296) : gN (be 4 v) = v := by
  rw [be4]; simp only [gN, List.foldl_cons, List.foldl_nil, beB_nat]; omega
theorem decT_enc (x : Te) (rest : List UInt8) (hr : x.right = true) (hb : x.bs.length ≤ 200) : decT (encT x ++ rest) = .ok (x, rest) := by
  obtain ⟨ha1, ha2, hc1, hc2⟩ := right_at hr
  obtain ⟨bs, acc, at_, code⟩ := x
  simp only at ha1 ha2 hc1 hc2 hb
  generalize at_.toNat = a at ha1 ha2
  generalize code.toNat = c at hc1 hc2
  subst ha1 hc1
  have hfl : (if acc then 1 else 0 : Nat) ≤ 1 := by split <;> omega
  have hfd : decide ((if acc then 1 else 0 : Nat) = 1) = acc := by cases acc <;> rfl
  generalize hfe : (if acc then 1 else 0 : Nat) = fl at hfl hfd
  have e : encT ⟨bs, acc, (a : Nat), (c : Nat)⟩ ++ rest = be 1 fl ++ (be 4 a ++ (be 1 c ++ (be 3 bs.length ++ (bs ++ rest)))) := by
    simp only [encT, hfe, Int.toNat_natCast, List.append_assoc]
  rw [e]
  have d1 : (be 1 fl ++ (be 4 a ++ (be 1 c ++ (be 3 bs.length ++ (bs ++ rest))))).take 1 = be 1 fl := List.take_left' (be_len _ _)
  have d2 : (be 1 fl ++ (be 4 a ++ (be 1 c ++ (be 3 bs.length ++ (bs ++ rest))))).drop 1 = be 4 a ++ (be 1 c ++ (be 3 bs.length ++ (bs ++ rest))) := List.drop_left' (be_len _ _)
  have d5 : (be 1 fl ++ (be 4 a ++ (be 1 c ++ (be 3 bs.length ++ (bs ++ rest))))).drop 5 = be 1 c ++ (be 3 bs.length ++ (bs ++ rest)) := by
    rw [show 5 = 1 + 4 from rfl, ← List.drop_drop, d2]; exact List.drop_left' (be_len _ _)
  have d6 : (be 1 fl ++ (be 4 a ++ (be 1 c ++ (be 3 bs.length ++ (bs ++ rest))))).drop 6 = be 3 bs.length ++ (bs ++ rest) := by
    rw [show 6 = 5 + 1 from rfl, ← List.drop_drop, d5]; exact List.drop_left' (be_len _ _)
  have d9 : (be 1 fl ++ (be 4 a ++ (be 1 c ++ (be 3 bs.length ++ (bs ++ rest))))).drop 9 = bs ++ rest := by
    rw [show 9 = 6 + 3 from rfl, ← List.drop_drop, d6]; exact List.drop_left' (be_len _ _)
  have d9n : (be 1 fl ++ (be 4 a ++ (be 1 c ++ (be 3 bs.length ++ (bs ++ rest))))).drop (9 + bs.length) = rest := by
    rw [← List.drop_drop, d9]; exact List.drop_left' rfl
  have hl : (be 1 fl ++ (be 4 a ++ (be 1 c ++ (be 3 bs.length ++ (bs ++ rest))))).length = 9 + bs.length + rest.length := by
    simp only [List.length_append, be_len]; omega
  have z : gN ((be 3 bs.length ++ (bs ++ rest)).take 3) = bs.length := by rw [List.take_left' (be_len _ _), gN_be3 (by omega)]
  unfold decT
  rw [if_neg (by rw [hl]; omega), d6, z, if_neg (by rw [hl]; omega), d1, gN_be1 (by omega), d2, d5, d9, d9n, List.take_left' (be_len _ _), List.take_left' (be_len _ _), List.take_left' rfl, gN_be4 (by omega), gN_be1 (by omega), hfd, if_neg]
  rintro (h | h)
  · omega
  · rw [hr] at h; cases h
theorem runT_enc {ts : List Te} (hr : ∀ x ∈ ts, x.right = true) (hb : ∀ x ∈ ts, x.bs.length ≤ 200) : ∀ i, i ≤ ts.length → runT i (ts.flatMap encT) = .ok (ts.take i, (ts.drop i).flatMap encT)
  | 0, _ => by simp [runT]
  | i + 1, h => by
    simp only [runT, runT_enc hr hb i (by omega)]
    rw [List.drop_eq_getElem_cons (show i < ts.length by omega), List.flatMap_cons, decT_enc _ _ (hr _ (List.getElem_mem _)) (hb _ (List.getElem_mem _))]
    rw [List.take_succ_eq_append_getElem (show i < ts.length by omega)]
theorem decAll_enc {ts : List Te} (hn : notR ts = false) (hf : few ts) : decAll (encAll ts) = .ok ts := by
  obtain ⟨h30, h200⟩ := hf
  have hr : ∀ x ∈ ts, x.right = true := fun x hx => by simpa using List.any_eq_false.1 hn x hx
  have e : encAll ts = [80, 66, 67, 49] ++ (be 2 ts.length ++ ts.flatMap encT) := by rw [encAll, List.append_assoc]
  have d4 : (encAll ts).drop 4 = be 2 ts.length ++ ts.flatMap encT := by rw [e]; exact List.drop_left' rfl
  have d6 : (encAll ts).drop 6 = ts.flatMap encT := by
    rw [show 6 = 4 + 2 from rfl, ← List.drop_drop, d4]; exact List.drop_left' (be_len _ _)
  have t4 : (encAll ts).take 4 = [80, 66, 67, 49] := by rw [e]; exact List.take_left' rfl
  have hl : ¬ (encAll ts).length < 6 := by rw [e]; simp only [List.length_append, be_len, List.length_cons, List.length_nil]; omega
  unfold decAll
  rw [if_neg hl, if_neg (by rw [t4]; simp), d4, List.take_left' (be_len _ _), gN_be2 (by omega), d6, runT_enc hr h200 _ (Nat.le_refl _)]
  simp
end Go.Proofs.YtjleeecaebgblaaGreatDoor.AL.K
namespace Go.Proofs.YtjleeecaebgblaaGreatDoor.AL.K
open Go Go.Proofs.YtjleeecaebgblaaGreatDoor.AL Go.RowKit
variable {P : Program} {gl : Nat → Option (List AVal)}
theorem gg9 : fns.get 9 = some c9 := by rfl
theorem gg4 : fns.get 4 = some c4 := by rfl
/-- Too many tests, or one too long. -/
def manyB (ts : List Te) : Bool := decide (30 < ts.length) || ts.any fun x => decide (200 < x.bs.length)
theorem manyB_few {ts : List Te} (h : manyB ts = false) : few ts := by
  simp only [manyB, Bool.or_eq_false_iff, decide_eq_false_iff_not, List.any_eq_false, decide_eq_true_eq] at h
  exact ⟨by omega, fun x hx => by have := h.2 x hx; omega⟩
theorem many_ok (t : Tells P) (ts : List Te) : Pure P gl 9 [.sl ts.length (tcells ts) .no] (.lit (.bool (manyB ts))) := by
  refine Pure.of t.m (t.f 9 (by decide) _ gg9) (by simp [c9]) (by simp [Clean]) (by simp [Cleans, Clean, Cleans_tcells]) ?_
  simp only [c9]
  simp [sy_seq, sy_region, sy_cons, sy_nil, sy_q, sy_n, sy_e, sy_gq, sy_put, sy_put0, sy_tmp, sy_int, sy_bool, sy_nilsl, sy_cond, sy_skip, sy_exit, sy_ret, sy_blockE, sy_blockR, QOp.sem, NOp.sem, EOp.sem, q, qg, qd, T, I, mv, sy_atL, sy_atL0, A0, cnd, rg, rsG, gdR, stripA, guardV, pickR, len_sl, len_ms, len_str, len_arr, unR, binR, ib_add, ib_sub, ib_mul, ib_quo, ib_rem, ib_eql, ib_neq, ib_lss, ib_leq, ib_gtr, ib_geq, is_shl, is_shr, bits64, sy_nili, sy_str, sy_nilp, sy_nilf, sy_nilmap, sy_slice, sy_draw, sy_dnil, sy_dcons, sy_dq, sy_dn, sy_de, sy_dgq, sy_rsA, sy_rechk0, sy_rechk, sy_call, sy_dcall, sy_panic, panicR, sy_hideE, sy_blockP, sy_after, sy_afterp, sy_afterD, sy_afterDp, nilcR, convR, bndV_nat, bndV_none]
  rw [sy_block]
  refine sy_loopL (fun i => i ≤ ts.length ∧ i ≤ 31 ∧ ∀ j (h : j < ts.length), j < i → ts[j].bs.length ≤ 200) (fun i => [(0, .sl ts.length (tcells ts) .no), (3, .lit (.int .i64 (i : Nat)))]) (fun _ => ⟨[], [], 0, gl, []⟩) (fun i => 31 - i) 0 ⟨Nat.zero_le _, Nat.zero_le _, fun j _ h => absurd h (Nat.not_lt_zero _)⟩ ?_ ?_
  · apply Wk.zero; simp only [VWL]; refine ⟨.eq ?_ ?_, .eq ?_ ?_, trivial⟩ <;> simp [sy_seq, sy_region, sy_cons, sy_nil, sy_q, sy_n, sy_e, sy_gq, sy_put, sy_put0, sy_tmp, sy_int, sy_bool, sy_nilsl, sy_cond, sy_skip, sy_exit, sy_ret, sy_blockE, sy_blockR, QOp.sem, NOp.sem, EOp.sem, q, qg, qd, T, I, mv, sy_atL, sy_atL0, A0, cnd, rg, rsG, gdR, stripA, guardV, pickR, len_sl, len_ms, len_str, len_arr, unR, binR, ib_add, ib_sub, ib_mul, ib_quo, ib_rem, ib_eql, ib_neq, ib_lss, ib_leq, ib_gtr, ib_geq, is_shl, is_shr, bits64, Clean, Cleans, Cleans_tcells]
  · rintro i ⟨hi, h31, hall⟩
    have hend : ¬ (i < ts.length ∧ i < 31) → manyB ts = decide (30 < ts.length) := by
      intro h
      cases hd : decide (30 < ts.length) with
      | true => rw [manyB, hd]; rfl
      | false =>
        have h30 : ¬ 30 < ts.length := of_decide_eq_false hd
        rw [manyB, hd, Bool.false_or, List.any_eq_false]
        intro x hx
        obtain ⟨j, hj, rfl⟩ := List.getElem_of_mem hx
        have := hall j hj (by omega)
        simp only [decide_eq_true_eq]; omega
    by_cases hlt : i < ts.length
    · by_cases hlt31 : i < 31
      · have hlt31' : (i : Int) < 31 := by omega
        have hd := tcells_at hlt
        simp [sy_seq, sy_region, sy_cons, sy_nil, sy_q, sy_n, sy_e, sy_gq, sy_put, sy_put0, sy_tmp, sy_int, sy_bool, sy_nilsl, sy_cond, sy_skip, sy_exit, sy_ret, sy_blockE, sy_blockR, QOp.sem, NOp.sem, EOp.sem, q, qg, qd, T, I, mv, sy_atL, sy_atL0, A0, cnd, rg, rsG, gdR, stripA, guardV, pickR, len_sl, len_ms, len_str, len_arr, unR, binR, ib_add, ib_sub, ib_mul, ib_quo, ib_rem, ib_eql, ib_neq, ib_lss, ib_leq, ib_gtr, ib_geq, is_shl, is_shr, bits64, sy_nili, sy_str, sy_nilp, sy_nilf, sy_nilmap, sy_slice, sy_draw, sy_dnil, sy_dcons, sy_dq, sy_dn, sy_de, sy_dgq, sy_rsA, sy_rechk0, sy_rechk, sy_call, sy_dcall, sy_panic, panicR, sy_hideE, sy_blockP, sy_after, sy_afterp, sy_afterD, sy_afterDp, nilcR, convR, bndV_nat, bndV_none, hlt, hlt31, hlt31']
        rw [sy_block]
        simp [sy_seq, sy_region, sy_cons, sy_nil, sy_q, sy_n, sy_e, sy_gq, sy_put, sy_put0, sy_tmp, sy_int, sy_bool, sy_nilsl, sy_cond, sy_skip, sy_exit, sy_ret, sy_blockE, sy_blockR, QOp.sem, NOp.sem, EOp.sem, q, qg, qd, T, I, mv, sy_atL, sy_atL0, A0, cnd, rg, rsG, gdR, stripA, guardV, pickR, len_sl, len_ms, len_str, len_arr, unR, binR, ib_add, ib_sub, ib_mul, ib_quo, ib_rem, ib_eql, ib_neq, ib_lss, ib_leq, ib_gtr, ib_geq, is_shl, is_shr, bits64, sy_nili, sy_str, sy_nilp, sy_nilf, sy_nilmap, sy_slice, sy_draw, sy_dnil, sy_dcons, sy_dq, sy_dn, sy_de, sy_dgq, sy_rsA, sy_rechk0, sy_rechk, sy_call, sy_dcall, sy_panic, panicR, sy_hideE, sy_blockP, sy_after, sy_afterp, sy_afterD, sy_afterDp, nilcR, convR, bndV_nat, bndV_none, sh_ptr, sh_ep, ld_ptr, ld_ep, lds_ptr, lds_ep, ptrS, ix_sl, hd, hlt]
        refine ⟨fun hr => ?_, fun hr => ?_⟩
        · refine ret0 rfl rfl (by simp [retVs]) ?_
          simp [retVs, oneOr, sy_seq, sy_region, sy_cons, sy_nil, sy_q, sy_n, sy_e, sy_gq, sy_put, sy_put0, sy_tmp, sy_int, sy_bool, sy_nilsl, sy_cond, sy_skip, sy_exit, sy_ret, sy_blockE, sy_blockR, QOp.sem, NOp.sem, EOp.sem, q, qg, qd, T, I, mv, sy_atL, sy_atL0, A0, cnd, rg, rsG, gdR, stripA, guardV, pickR, len_sl, len_ms, len_str, len_arr, unR, binR, ib_add, ib_sub, ib_mul, ib_quo, ib_rem, ib_eql, ib_neq, ib_lss, ib_leq, ib_gtr, ib_geq, is_shl, is_shr, bits64]
          refine .eq ?_ (by simp [Clean])
          have : manyB ts = true := by
            rw [manyB, Bool.or_eq_true]
            exact .inr (List.any_eq_true.2 ⟨ts[i], List.getElem_mem _, decide_eq_true (by omega)⟩)
          rw [this]
        · refine ⟨i + 1, ⟨hlt, hlt31, fun j h hj => ?_⟩, by omega, ?_⟩
          · rcases Nat.lt_succ_iff_lt_or_eq.1 hj with h1 | h1
            · exact hall j h h1
            · subst h1; omega
          apply Wk.zero; simp only [VWL]; refine ⟨.eq ?_ ?_, .eq ?_ ?_, trivial⟩ <;> simp [sy_seq, sy_region, sy_cons, sy_nil, sy_q, sy_n, sy_e, sy_gq, sy_put, sy_put0, sy_tmp, sy_int, sy_bool, sy_nilsl, sy_cond, sy_skip, sy_exit, sy_ret, sy_blockE, sy_blockR, QOp.sem, NOp.sem, EOp.sem, q, qg, qd, T, I, mv, sy_atL, sy_atL0, A0, cnd, rg, rsG, gdR, stripA, guardV, pickR, len_sl, len_ms, len_str, len_arr, unR, binR, ib_add, ib_sub, ib_mul, ib_quo, ib_rem, ib_eql, ib_neq, ib_lss, ib_leq, ib_gtr, ib_geq, is_shl, is_shr, bits64, Clean, Cleans, Cleans_tcells]
          simp only [IntKind.wrap_i64]; omega
      · have hlt31' : ¬ (i : Int) < 31 := by omega
        have he := hend (fun h => hlt31 h.2)
        simp [sy_seq, sy_region, sy_cons, sy_nil, sy_q, sy_n, sy_e, sy_gq, sy_put, sy_put0, sy_tmp, sy_int, sy_bool, sy_nilsl, sy_cond, sy_skip, sy_exit, sy_ret, sy_blockE, sy_blockR, QOp.sem, NOp.sem, EOp.sem, q, qg, qd, T, I, mv, sy_atL, sy_atL0, A0, cnd, rg, rsG, gdR, stripA, guardV, pickR, len_sl, len_ms, len_str, len_arr, unR, binR, ib_add, ib_sub, ib_mul, ib_quo, ib_rem, ib_eql, ib_neq, ib_lss, ib_leq, ib_gtr, ib_geq, is_shl, is_shr, bits64, sy_nili, sy_str, sy_nilp, sy_nilf, sy_nilmap, sy_slice, sy_draw, sy_dnil, sy_dcons, sy_dq, sy_dn, sy_de, sy_dgq, sy_rsA, sy_rechk0, sy_rechk, sy_call, sy_dcall, sy_panic, panicR, sy_hideE, sy_blockP, sy_after, sy_afterp, sy_afterD, sy_afterDp, nilcR, convR, bndV_nat, bndV_none, hlt, hlt31, hlt31']
        refine ret0 rfl rfl (by simp [retVs]) ?_
        simp [retVs, oneOr, sy_seq, sy_region, sy_cons, sy_nil, sy_q, sy_n, sy_e, sy_gq, sy_put, sy_put0, sy_tmp, sy_int, sy_bool, sy_nilsl, sy_cond, sy_skip, sy_exit, sy_ret, sy_blockE, sy_blockR, QOp.sem, NOp.sem, EOp.sem, q, qg, qd, T, I, mv, sy_atL, sy_atL0, A0, cnd, rg, rsG, gdR, stripA, guardV, pickR, len_sl, len_ms, len_str, len_arr, unR, binR, ib_add, ib_sub, ib_mul, ib_quo, ib_rem, ib_eql, ib_neq, ib_lss, ib_leq, ib_gtr, ib_geq, is_shl, is_shr, bits64]
        refine .eq ?_ (by simp [Clean])
        rw [he]; congr 2; simp; omega
    · have he := hend (fun h => hlt h.1)
      simp [sy_seq, sy_region, sy_cons, sy_nil, sy_q, sy_n, sy_e, sy_gq, sy_put, sy_put0, sy_tmp, sy_int, sy_bool, sy_nilsl, sy_cond, sy_skip, sy_exit, sy_ret, sy_blockE, sy_blockR, QOp.sem, NOp.sem, EOp.sem, q, qg, qd, T, I, mv, sy_atL, sy_atL0, A0, cnd, rg, rsG, gdR, stripA, guardV, pickR, len_sl, len_ms, len_str, len_arr, unR, binR, ib_add, ib_sub, ib_mul, ib_quo, ib_rem, ib_eql, ib_neq, ib_lss, ib_leq, ib_gtr, ib_geq, is_shl, is_shr, bits64, sy_nili, sy_str, sy_nilp, sy_nilf, sy_nilmap, sy_slice, sy_draw, sy_dnil, sy_dcons, sy_dq, sy_dn, sy_de, sy_dgq, sy_rsA, sy_rechk0, sy_rechk, sy_call, sy_dcall, sy_panic, panicR, sy_hideE, sy_blockP, sy_after, sy_afterp, sy_afterD, sy_afterDp, nilcR, convR, bndV_nat, bndV_none, hlt]
      refine ret0 rfl rfl (by simp [retVs]) ?_
      simp [retVs, oneOr, sy_seq, sy_region, sy_cons, sy_nil, sy_q, sy_n, sy_e, sy_gq, sy_put, sy_put0, sy_tmp, sy_int, sy_bool, sy_nilsl, sy_cond, sy_skip, sy_exit, sy_ret, sy_blockE, sy_blockR, QOp.sem, NOp.sem, EOp.sem, q, qg, qd, T, I, mv, sy_atL, sy_atL0, A0, cnd, rg, rsG, gdR, stripA, guardV, pickR, len_sl, len_ms, len_str, len_arr, unR, binR, ib_add, ib_sub, ib_mul, ib_quo, ib_rem, ib_eql, ib_neq, ib_lss, ib_leq, ib_gtr, ib_geq, is_shl, is_shr, bits64]
      refine .eq ?_ (by simp [Clean])
      rw [he]; congr 2; simp; omega
theorem encAll_len {ts : List Te} (h : few ts) : (encAll ts).length ≤ 10000 := by
  have := flat_len h.2
  have h30 := h.1
  simp only [encAll, List.length_append, be_len, List.length_cons, List.length_nil]
  omega
theorem law_encodes (t : Tells P) (h32 : callable P 32 = true ∧ ∃ mu, mkFn P mu 32 = some c32s) (h11 : callable P 11 = true ∧ ∃ mu, mkFn P mu 11 = some c11s) (hk : ∀ μ : AMem, μ.gl = gl → calls P 5 [] μ (fun o μ' => o = .ret (.lit (.bool true)) ∧ μ' = μ)) (ts : List Te) :
    calls P 4 [.sl ts.length (tcells ts) .no] (AMem.none gl) (fun o μ' => o = .ret (.lit (.bool true))) := by
  refine calls.go t.m (t.f 4 (by decide) _ gg4) (by simp [c4]) fun R hRR hf hcl => ?_
  have fin : ∀ {A : ATmps} {l : List ABlk} {lv : List Nat} {nx : Nat}, A 2 = .lit (.bool true) → retK P ⟨([] : List ABlk).length, 0, none⟩ [.tmp 2] R A ⟨l, lv, nx, gl, []⟩ := by
    intro A l lv nx h2
    refine ⟨by simp [retVs], .inl ?_⟩
    simp only [retVs, oneOr, h2]
    exact hRR _ _ _ _ _ _ rfl
  simp only [c4]
  simp [sy_seq, sy_region, sy_cons, sy_nil, sy_q, sy_n, sy_e, sy_gq, sy_put, sy_put0, sy_tmp, sy_int, sy_bool, sy_nilsl, sy_cond, sy_skip, sy_exit, sy_ret, sy_blockE, sy_blockR, QOp.sem, NOp.sem, EOp.sem, q, qg, qd, T, I, mv, sy_atL, sy_atL0, A0, cnd, rg, rsG, gdR, stripA, guardV, pickR, len_sl, len_ms, len_str, len_arr, unR, binR, ib_add, ib_sub, ib_mul, ib_quo, ib_rem, ib_eql, ib_neq, ib_lss, ib_leq, ib_gtr, ib_geq, is_shl, is_shr, bits64, sy_nili, sy_str, sy_nilp, sy_nilf, sy_nilmap, sy_slice, sy_draw, sy_dnil, sy_dcons, sy_dq, sy_dn, sy_de, sy_dgq, sy_rsA, sy_rechk0, sy_rechk, sy_call, sy_dcall, sy_panic, panicR, sy_hideE, sy_blockP, sy_after, sy_afterp, sy_afterD, sy_afterDp, nilcR, convR, bndV_nat, bndV_none]
  refine (many_ok t ts _ rfl).ret ?_
  simp [sy_seq, sy_region, sy_cons, sy_nil, sy_q, sy_n, sy_e, sy_gq, sy_put, sy_put0, sy_tmp, sy_int, sy_bool, sy_nilsl, sy_cond, sy_skip, sy_exit, sy_ret, sy_blockE, sy_blockR, QOp.sem, NOp.sem, EOp.sem, q, qg, qd, T, I, mv, sy_atL, sy_atL0, A0, cnd, rg, rsG, gdR, stripA, guardV, pickR, len_sl, len_ms, len_str, len_arr, unR, binR, ib_add, ib_sub, ib_mul, ib_quo, ib_rem, ib_eql, ib_neq, ib_lss, ib_leq, ib_gtr, ib_geq, is_shl, is_shr, bits64, sy_nili, sy_str, sy_nilp, sy_nilf, sy_nilmap, sy_slice, sy_draw, sy_dnil, sy_dcons, sy_dq, sy_dn, sy_de, sy_dgq, sy_rsA, sy_rechk0, sy_rechk, sy_call, sy_dcall, sy_panic, panicR, sy_hideE, sy_blockP, sy_after, sy_afterp, sy_afterD, sy_afterDp, nilcR, convR, bndV_nat, bndV_none]
  refine ⟨fun hm => ?_, fun hm => ?_⟩
  · refine (hk _ rfl).ret ?_
    simp [sy_seq, sy_region, sy_cons, sy_nil, sy_q, sy_n, sy_e, sy_gq, sy_put, sy_put0, sy_tmp, sy_int, sy_bool, sy_nilsl, sy_cond, sy_skip, sy_exit, sy_ret, sy_blockE, sy_blockR, QOp.sem, NOp.sem, EOp.sem, q, qg, qd, T, I, mv, sy_atL, sy_atL0, A0, cnd, rg, rsG, gdR, stripA, guardV, pickR, len_sl, len_ms, len_str, len_arr, unR, binR, ib_add, ib_sub, ib_mul, ib_quo, ib_rem, ib_eql, ib_neq, ib_lss, ib_leq, ib_gtr, ib_geq, is_shl, is_shr, bits64, sy_nili, sy_str, sy_nilp, sy_nilf, sy_nilmap, sy_slice, sy_draw, sy_dnil, sy_dcons, sy_dq, sy_dn, sy_de, sy_dgq, sy_rsA, sy_rechk0, sy_rechk, sy_call, sy_dcall, sy_panic, panicR, sy_hideE, sy_blockP, sy_after, sy_afterp, sy_afterD, sy_afterDp, nilcR, convR, bndV_nat, bndV_none]
    exact fin (by simp [sy_seq, sy_region, sy_cons, sy_nil, sy_q, sy_n, sy_e, sy_gq, sy_put, sy_put0, sy_tmp, sy_int, sy_bool, sy_nilsl, sy_cond, sy_skip, sy_exit, sy_ret, sy_blockE, sy_blockR, QOp.sem, NOp.sem, EOp.sem, q, qg, qd, T, I, mv, sy_atL, sy_atL0, A0, cnd, rg, rsG, gdR, stripA, guardV, pickR, len_sl, len_ms, len_str, len_arr, unR, binR, ib_add, ib_sub, ib_mul, ib_quo, ib_rem, ib_eql, ib_neq, ib_lss, ib_leq, ib_gtr, ib_geq, is_shl, is_shr, bits64])
  have hfew := manyB_few hm
  refine (encode_ok t ts hfew _ rfl).ret ?_
  simp [sy_seq, sy_region, sy_cons, sy_nil, sy_q, sy_n, sy_e, sy_gq, sy_put, sy_put0, sy_tmp, sy_int, sy_bool, sy_nilsl, sy_cond, sy_skip, sy_exit, sy_ret, sy_blockE, sy_blockR, QOp.sem, NOp.sem, EOp.sem, q, qg, qd, T, I, mv, sy_atL, sy_atL0, A0, cnd, rg, rsG, gdR, stripA, guardV, pickR, len_sl, len_ms, len_str, len_arr, unR, binR, ib_add, ib_sub, ib_mul, ib_quo, ib_rem, ib_eql, ib_neq, ib_lss, ib_leq, ib_gtr, ib_geq, is_shl, is_shr, bits64, sy_nili, sy_str, sy_nilp, sy_nilf, sy_nilmap, sy_slice, sy_draw, sy_dnil, sy_dcons, sy_dq, sy_dn, sy_de, sy_dgq, sy_rsA, sy_rechk0, sy_rechk, sy_call, sy_dcall, sy_panic, panicR, sy_hideE, sy_blockP, sy_after, sy_afterp, sy_afterD, sy_afterDp, nilcR, convR, bndV_nat, bndV_none]
  cases hn : notR ts with
  | true =>
    rw [encV, if_pos hn]
    simp [sy_seq, sy_region, sy_cons, sy_nil, sy_q, sy_n, sy_e, sy_gq, sy_put, sy_put0, sy_tmp, sy_int, sy_bool, sy_nilsl, sy_cond, sy_skip, sy_exit, sy_ret, sy_blockE, sy_blockR, QOp.sem, NOp.sem, EOp.sem, q, qg, qd, T, I, mv, sy_atL, sy_atL0, A0, cnd, rg, rsG, gdR, stripA, guardV, pickR, len_sl, len_ms, len_str, len_arr, unR, binR, ib_add, ib_sub, ib_mul, ib_quo, ib_rem, ib_eql, ib_neq, ib_lss, ib_leq, ib_gtr, ib_geq, is_shl, is_shr, bits64, sy_nili, sy_str, sy_nilp, sy_nilf, sy_nilmap, sy_slice, sy_draw, sy_dnil, sy_dcons, sy_dq, sy_dn, sy_de, sy_dgq, sy_rsA, sy_rechk0, sy_rechk, sy_call, sy_dcall, sy_panic, panicR, sy_hideE, sy_blockP, sy_after, sy_afterp, sy_afterD, sy_afterDp, nilcR, convR, bndV_nat, bndV_none, extractR]
    refine (rencode_ok t h11 ts hfew _ rfl).ret ?_
    rw [encRV, if_pos hn]
    simp [sy_seq, sy_region, sy_cons, sy_nil, sy_q, sy_n, sy_e, sy_gq, sy_put, sy_put0, sy_tmp, sy_int, sy_bool, sy_nilsl, sy_cond, sy_skip, sy_exit, sy_ret, sy_blockE, sy_blockR, QOp.sem, NOp.sem, EOp.sem, q, qg, qd, T, I, mv, sy_atL, sy_atL0, A0, cnd, rg, rsG, gdR, stripA, guardV, pickR, len_sl, len_ms, len_str, len_arr, unR, binR, ib_add, ib_sub, ib_mul, ib_quo, ib_rem, ib_eql, ib_neq, ib_lss, ib_leq, ib_gtr, ib_geq, is_shl, is_shr, bits64, sy_nili, sy_str, sy_nilp, sy_nilf, sy_nilmap, sy_slice, sy_draw, sy_dnil, sy_dcons, sy_dq, sy_dn, sy_de, sy_dgq, sy_rsA, sy_rechk0, sy_rechk, sy_call, sy_dcall, sy_panic, panicR, sy_hideE, sy_blockP, sy_after, sy_afterp, sy_afterD, sy_afterDp, nilcR, convR, bndV_nat, bndV_none, extractR]
    simp [sy_seq, sy_region, sy_cons, sy_nil, sy_q, sy_n, sy_e, sy_gq, sy_put, sy_put0, sy_tmp, sy_int, sy_bool, sy_nilsl, sy_cond, sy_skip, sy_exit, sy_ret, sy_blockE, sy_blockR, QOp.sem, NOp.sem, EOp.sem, q, qg, qd, T, I, mv, sy_atL, sy_atL0, A0, cnd, rg, rsG, gdR, stripA, guardV, pickR, len_sl, len_ms, len_str, len_arr, unR, binR, ib_add, ib_sub, ib_mul, ib_quo, ib_rem, ib_eql, ib_neq, ib_lss, ib_leq, ib_gtr, ib_geq, is_shl, is_shr, bits64, sy_nili, sy_str, sy_nilp, sy_nilf, sy_nilmap, sy_slice, sy_draw, sy_dnil, sy_dcons, sy_dq, sy_dn, sy_de, sy_dgq, sy_rsA, sy_rechk0, sy_rechk, sy_call, sy_dcall, sy_panic, panicR, sy_hideE, sy_blockP, sy_after, sy_afterp, sy_afterD, sy_afterDp, nilcR, convR, bndV_nat, bndV_none, sy_gcall]
    refine .inl ⟨.lit (.bool true), trivial, hk _ rfl, ?_⟩
    simp [sy_seq, sy_region, sy_cons, sy_nil, sy_q, sy_n, sy_e, sy_gq, sy_put, sy_put0, sy_tmp, sy_int, sy_bool, sy_nilsl, sy_cond, sy_skip, sy_exit, sy_ret, sy_blockE, sy_blockR, QOp.sem, NOp.sem, EOp.sem, q, qg, qd, T, I, mv, sy_atL, sy_atL0, A0, cnd, rg, rsG, gdR, stripA, guardV, pickR, len_sl, len_ms, len_str, len_arr, unR, binR, ib_add, ib_sub, ib_mul, ib_quo, ib_rem, ib_eql, ib_neq, ib_lss, ib_leq, ib_gtr, ib_geq, is_shl, is_shr, bits64, sy_nili, sy_str, sy_nilp, sy_nilf, sy_nilmap, sy_slice, sy_draw, sy_dnil, sy_dcons, sy_dq, sy_dn, sy_de, sy_dgq, sy_rsA, sy_rechk0, sy_rechk, sy_call, sy_dcall, sy_panic, panicR, sy_hideE, sy_blockP, sy_after, sy_afterp, sy_afterD, sy_afterDp, nilcR, convR, bndV_nat, bndV_none]
    exact fin (by simp [sy_seq, sy_region, sy_cons, sy_nil, sy_q, sy_n, sy_e, sy_gq, sy_put, sy_put0, sy_tmp, sy_int, sy_bool, sy_nilsl, sy_cond, sy_skip, sy_exit, sy_ret, sy_blockE, sy_blockR, QOp.sem, NOp.sem, EOp.sem, q, qg, qd, T, I, mv, sy_atL, sy_atL0, A0, cnd, rg, rsG, gdR, stripA, guardV, pickR, len_sl, len_ms, len_str, len_arr, unR, binR, ib_add, ib_sub, ib_mul, ib_quo, ib_rem, ib_eql, ib_neq, ib_lss, ib_leq, ib_gtr, ib_geq, is_shl, is_shr, bits64])
  | false =>
    have hn' : ¬ notR ts = true := by rw [hn]; decide
    rw [encV, if_neg hn']
    simp [sy_seq, sy_region, sy_cons, sy_nil, sy_q, sy_n, sy_e, sy_gq, sy_put, sy_put0, sy_tmp, sy_int, sy_bool, sy_nilsl, sy_cond, sy_skip, sy_exit, sy_ret, sy_blockE, sy_blockR, QOp.sem, NOp.sem, EOp.sem, q, qg, qd, T, I, mv, sy_atL, sy_atL0, A0, cnd, rg, rsG, gdR, stripA, guardV, pickR, len_sl, len_ms, len_str, len_arr, unR, binR, ib_add, ib_sub, ib_mul, ib_quo, ib_rem, ib_eql, ib_neq, ib_lss, ib_leq, ib_gtr, ib_geq, is_shl, is_shr, bits64, sy_nili, sy_str, sy_nilp, sy_nilf, sy_nilmap, sy_slice, sy_draw, sy_dnil, sy_dcons, sy_dq, sy_dn, sy_de, sy_dgq, sy_rsA, sy_rechk0, sy_rechk, sy_call, sy_dcall, sy_panic, panicR, sy_hideE, sy_blockP, sy_after, sy_afterp, sy_afterD, sy_afterDp, nilcR, convR, bndV_nat, bndV_none, extractR]
    refine (rencode_ok t h11 ts hfew _ rfl).ret ?_
    rw [encRV, if_neg hn']
    simp [sy_seq, sy_region, sy_cons, sy_nil, sy_q, sy_n, sy_e, sy_gq, sy_put, sy_put0, sy_tmp, sy_int, sy_bool, sy_nilsl, sy_cond, sy_skip, sy_exit, sy_ret, sy_blockE, sy_blockR, QOp.sem, NOp.sem, EOp.sem, q, qg, qd, T, I, mv, sy_atL, sy_atL0, A0, cnd, rg, rsG, gdR, stripA, guardV, pickR, len_sl, len_ms, len_str, len_arr, unR, binR, ib_add, ib_sub, ib_mul, ib_quo, ib_rem, ib_eql, ib_neq, ib_lss, ib_leq, ib_gtr, ib_geq, is_shl, is_shr, bits64, sy_nili, sy_str, sy_nilp, sy_nilf, sy_nilmap, sy_slice, sy_draw, sy_dnil, sy_dcons, sy_dq, sy_dn, sy_de, sy_dgq, sy_rsA, sy_rechk0, sy_rechk, sy_call, sy_dcall, sy_panic, panicR, sy_hideE, sy_blockP, sy_after, sy_afterp, sy_afterD, sy_afterDp, nilcR, convR, bndV_nat, bndV_none, extractR]
    refine (decode_ok (row := none) t h32 (v := .sl (encAll ts).length (aBytes (encAll ts)) .no) (bs := encAll ts) (.sl _ .no) .none (by have := encAll_len hfew; omega)).mono ?_
    rintro o μ' ⟨rfl, rfl⟩
    rw [decAll_enc hn hfew]
    simp [sy_seq, sy_region, sy_cons, sy_nil, sy_q, sy_n, sy_e, sy_gq, sy_put, sy_put0, sy_tmp, sy_int, sy_bool, sy_nilsl, sy_cond, sy_skip, sy_exit, sy_ret, sy_blockE, sy_blockR, QOp.sem, NOp.sem, EOp.sem, q, qg, qd, T, I, mv, sy_atL, sy_atL0, A0, cnd, rg, rsG, gdR, stripA, guardV, pickR, len_sl, len_ms, len_str, len_arr, unR, binR, ib_add, ib_sub, ib_mul, ib_quo, ib_rem, ib_eql, ib_neq, ib_lss, ib_leq, ib_gtr, ib_geq, is_shl, is_shr, bits64, sy_nili, sy_str, sy_nilp, sy_nilf, sy_nilmap, sy_slice, sy_draw, sy_dnil, sy_dcons, sy_dq, sy_dn, sy_de, sy_dgq, sy_rsA, sy_rechk0, sy_rechk, sy_call, sy_dcall, sy_panic, panicR, sy_hideE, sy_blockP, sy_after, sy_afterp, sy_afterD, sy_afterDp, nilcR, convR, bndV_nat, bndV_none, extractR, decV]
    have hbs := fun μ => (IsB.sl (row := none) (encAll ts) .no).bstr (μ := μ) .none
    simp [sy_seq, sy_region, sy_cons, sy_nil, sy_q, sy_n, sy_e, sy_gq, sy_put, sy_put0, sy_tmp, sy_int, sy_bool, sy_nilsl, sy_cond, sy_skip, sy_exit, sy_ret, sy_blockE, sy_blockR, QOp.sem, NOp.sem, EOp.sem, q, qg, qd, T, I, mv, sy_atL, sy_atL0, A0, cnd, rg, rsG, gdR, stripA, guardV, pickR, len_sl, len_ms, len_str, len_arr, unR, binR, ib_add, ib_sub, ib_mul, ib_quo, ib_rem, ib_eql, ib_neq, ib_lss, ib_leq, ib_gtr, ib_geq, is_shl, is_shr, bits64, sy_nili, sy_str, sy_nilp, sy_nilf, sy_nilmap, sy_slice, sy_draw, sy_dnil, sy_dcons, sy_dq, sy_dn, sy_de, sy_dgq, sy_rsA, sy_rechk0, sy_rechk, sy_call, sy_dcall, sy_panic, panicR, sy_hideE, sy_blockP, sy_after, sy_afterp, sy_afterD, sy_afterDp, nilcR, convR, bndV_nat, bndV_none, hbs, sy_gcall, strBinR, eqlR]
    refine .inl ⟨.lit (.bool true), trivial, same_ok t ts (by have := hfew.1; omega) _ rfl, ?_⟩
    simp [sy_seq, sy_region, sy_cons, sy_nil, sy_q, sy_n, sy_e, sy_gq, sy_put, sy_put0, sy_tmp, sy_int, sy_bool, sy_nilsl, sy_cond, sy_skip, sy_exit, sy_ret, sy_blockE, sy_blockR, QOp.sem, NOp.sem, EOp.sem, q, qg, qd, T, I, mv, sy_atL, sy_atL0, A0, cnd, rg, rsG, gdR, stripA, guardV, pickR, len_sl, len_ms, len_str, len_arr, unR, binR, ib_add, ib_sub, ib_mul, ib_quo, ib_rem, ib_eql, ib_neq, ib_lss, ib_leq, ib_gtr, ib_geq, is_shl, is_shr, bits64, sy_nili, sy_str, sy_nilp, sy_nilf, sy_nilmap, sy_slice, sy_draw, sy_dnil, sy_dcons, sy_dq, sy_dn, sy_de, sy_dgq, sy_rsA, sy_rechk0, sy_rechk, sy_call, sy_dcall, sy_panic, panicR, sy_hideE, sy_blockP, sy_after, sy_afterp, sy_afterD, sy_afterDp, nilcR, convR, bndV_nat, bndV_none, sy_gcall]
    refine .inl ⟨.lit (.bool true), trivial, hk _ rfl, ?_⟩
    simp [sy_seq, sy_region, sy_cons, sy_nil, sy_q, sy_n, sy_e, sy_gq, sy_put, sy_put0, sy_tmp, sy_int, sy_bool, sy_nilsl, sy_cond, sy_skip, sy_exit, sy_ret, sy_blockE, sy_blockR, QOp.sem, NOp.sem, EOp.sem, q, qg, qd, T, I, mv, sy_atL, sy_atL0, A0, cnd, rg, rsG, gdR, stripA, guardV, pickR, len_sl, len_ms, len_str, len_arr, unR, binR, ib_add, ib_sub, ib_mul, ib_quo, ib_rem, ib_eql, ib_neq, ib_lss, ib_leq, ib_gtr, ib_geq, is_shl, is_shr, bits64, sy_nili, sy_str, sy_nilp, sy_nilf, sy_nilmap, sy_slice, sy_draw, sy_dnil, sy_dcons, sy_dq, sy_dn, sy_de, sy_dgq, sy_rsA, sy_rechk0, sy_rechk, sy_call, sy_dcall, sy_panic, panicR, sy_hideE, sy_blockP, sy_after, sy_afterp, sy_afterD, sy_afterDp, nilcR, convR, bndV_nat, bndV_none]
    exact fin (by simp [sy_seq, sy_region, sy_cons, sy_nil, sy_q, sy_n, sy_e, sy_gq, sy_put, sy_put0, sy_tmp, sy_int, sy_bool, sy_nilsl, sy_cond, sy_skip, sy_exit, sy_ret, sy_blockE, sy_blockR, QOp.sem, NOp.sem, EOp.sem, q, qg, qd, T, I, mv, sy_atL, sy_atL0, A0, cnd, rg, rsG, gdR, stripA, guardV, pickR, len_sl, len_ms, len_str, len_arr, unR, binR, ib_add, ib_sub, ib_mul, ib_quo, ib_rem, ib_eql, ib_neq, ib_lss, ib_leq, ib_gtr, ib_geq, is_shl, is_shr, bits64])
end Go.Proofs.YtjleeecaebgblaaGreatDoor.AL.K
set_option maxRecDepth 100000
namespace Go.Proofs.YtjleeecaebgblaaGreatDoor.AL.K
open Go Go.Proofs.YtjleeecaebgblaaGreatDoor.AL Go.Proofs
theorem m11s : mkFn Tryz.prog (fun r i => Nat.beq r 3 && Nat.beq i 0) 11 = some c11s := by kernel_rfl
theorem h11 : callable Tryz.prog 11 = true ∧ ∃ mu, mkFn Tryz.prog mu 11 = some c11s := ⟨k11, _, m11s⟩
end Go.Proofs.YtjleeecaebgblaaGreatDoor.AL.K
namespace Go.Proofs.YtjleeecaebgblaaGreatDoor
open Go Go.Proofs.YtjleeecaebgblaaGreatDoor.AL Go.Proofs.YtjleeecaebgblaaGreatDoor.AL.K Go.ChangeShapes Go.WideShapes Go.ChangeAt Go.RowKit
theorem own : ownKnob Tryz.prog.godebug = none := by kernel_rfl
theorem laidOut : laidOutB Tryz.prog = true := by kernel_rfl
theorem ghost_sim (W : World) : Sim Tryz.prog (ghost W) W (AMem.none G0) := by
  constructor
  · intro i b e; cases e
  · intro i j b k k' e; cases e
  · intro i c e; cases e
  · intro i b k e; cases e
  · intro b o x e
    simp only [ghost] at e
    split at e
    · rename_i cs t fr h
      exact ⟨cs, t, fr, h, e⟩
    · cases e
  · intro i b k o e; cases e
  · intro s b c n e h; cases h
  · intro s b c n e hs; cases hs
  · intro s b c n e i k hs; cases hs
  · intro s s' b c n e c' n' e' hs; cases hs
  · exact List.nodup_nil
  · intro s hs; cases hs
  · intro s _; rfl
  · intro b cs e; cases e
/-- THE CALL, out of the walk. -/
theorem law_calls (W : World) (ts : List Te) (v0 : Value) (h : VR (ghost W) (.sl ts.length (tcells ts) .no) v0) :
    Calls Tryz.prog 4 #[v0] W fun e W' => e = .returned (.bool true) ∧ Below W.heap.size W W' := by
  have hw : WFm (AMem.none G0) := ⟨fun b hb => (List.not_mem_nil hb).elim, fun b cs e => (by cases e), fun d hd => (List.not_mem_nil hd).elim⟩
  have hc := (law_encodes (gl := G0) tells h32 h11 (fun μ hμ => known_ok hμ) ts).2.out (ghost W) W [v0] (ghost_sim W) hw ⟨⟨Cleans_tcells ts, trivial⟩, trivial⟩ ⟨v0, [], rfl, h, rfl⟩
  refine hc.mono fun e W' ⟨o, μ', g', ho, hst, hsim, hout, _⟩ => ?_
  subst ho
  constructor
  · cases e with
    | returned cv =>
      have : cv = .bool true := hout
      rw [this]
    | panicked ch => exact hout.elim
    | outgrown => exact hout.elim
  · exact ⟨hst.frame.os, hst.frame.tape, hst.frame.output, hst.frame.size, fun b hb => hst.frame.block b hb (by
      rintro (⟨i, hi⟩ | ⟨s, hs, _⟩)
      · cases hi
      · cases hs)⟩
theorem sh_bytes {cs : List AVal} (h : Sh (.sl (.int .u8)) cs) : ∃ bs : List UInt8, cs = [.sl bs.length (aBytes bs) .no] := by
  cases h with
  | sl e ls hl hls =>
    have : ∃ bs : List UInt8, bs.length = ls.length ∧ ls.flatten = aBytes bs := by
      clear hl
      induction ls with
      | nil => exact ⟨[], rfl, rfl⟩
      | cons l ls ih =>
        obtain ⟨bs, h1, h2⟩ := ih fun l hl => hls l (by simp [hl])
        cases hls l (by simp) with
        | int k n hw =>
          have hn : 0 ≤ n ∧ n ≤ 255 := by simpa [Lit.wf, IntKind.min, IntKind.max, IntKind.signed, IntKind.bits] using hw
          refine ⟨UInt8.ofNat n.toNat :: bs, by simp [h1], ?_⟩
          rw [List.flatten_cons, h2, aBytes_cons]
          have : ((UInt8.ofNat n.toNat).toNat : Int) = n := by
            rw [UInt8.toNat_ofNat']
            omega
          rw [this]; rfl
    obtain ⟨bs, h1, h2⟩ := this
    exact ⟨bs, by rw [h1, h2]⟩
/-- Tests, as our type. -/
def tyT : Ty := .st [.sl (.int .u8), .bool, .int .i64, .int .i64]
theorem sh_test {cs : List AVal} (h : Sh tyT cs) : ∃ x : Te, cs = x.cells .no := by
  cases h with
  | st fs cs h =>
    cases h with
    | cons f fs c cs h1 h =>
      obtain ⟨bs, rfl⟩ := sh_bytes h1
      cases h with
      | cons f fs c cs h2 h =>
        cases h2 with
        | bool b =>
          cases h with
          | cons f fs c cs h3 h =>
            cases h3 with
            | int k n hn =>
              cases h with
              | cons f fs c cs h4 h =>
                cases h4 with
                | int k m hm =>
                  cases h
                  exact ⟨⟨bs, b, n, m⟩, rfl⟩
theorem sh_tests {cs : List AVal} (h : Sh (.sl tyT) cs) : ∃ ts : List Te, cs = [.sl ts.length (tcells ts) .no] := by
  cases h with
  | sl e ls hl hls =>
    have : ∃ ts : List Te, ts.length = ls.length ∧ ls.flatten = tcells ts := by
      clear hl
      induction ls with
      | nil => exact ⟨[], rfl, rfl⟩
      | cons l ls ih =>
        obtain ⟨ts, h1, h2⟩ := ih fun l hl => hls l (by simp [hl])
        obtain ⟨x, hx⟩ := sh_test (hls l (by simp))
        refine ⟨x :: ts, by simp [h1], ?_⟩
        rw [List.flatten_cons, h2, hx]; rfl
    obtain ⟨ts, h1, h2⟩ := this
    exact ⟨ts, by rw [h1, h2]⟩
/-- The argument, as a value of ours. -/
theorem arg_VR {H : Type} {enc : TypeId × Value → H} {W : World} {v0 : Value} {d0 : DataW H} {p : List MemPlace} (hv : ∃ A n c, v0 = .slice A n c) (h0 : DataW.Trod enc Tryz.prog W 0 (fun _ => true) true 24 v0 d0 p) :
    ∃ ts : List Te, VR (ghost W) (.sl ts.length (tcells ts) .no) v0 := by
  obtain ⟨A, n, c, rfl⟩ := hv
  obtain ⟨fuel, hf⟩ := h0
  obtain ⟨cs, hs, hr⟩ := open_sh fuel (.sl tyT) 24 _ _ (by kernel_rfl) hf
  obtain ⟨ts, rfl⟩ := sh_tests hs
  refine ⟨ts, ?_⟩
  simp only [VRs] at hr
  obtain ⟨v, vs, e, hv, _⟩ := hr
  simp only [Value.cells, List.cons.injEq] at e
  rw [e.1]; exact hv
set_option maxRecDepth 100000 in
theorem lifted (os : Os) (started : os.Started) (H : Type) (enc : TypeId × Value → H) :
    ReturnsInHanded {} Tryz.checked os 4 .any (fun w args => (Rows.corpusEncodesSpec.pre enc Tryz.prog Tryz.f4 Rows.corpusEncodesRow.domain false w args ∧ laidMetH Tryz.prog Rows.corpusEncodesRow.laid w) ∧ sizedMet enc Tryz.prog Tryz.f4 (OpenSpec.ofChange Rows.corpusEncodesSpec) false w args)
      (Rows.corpusEncodesSpec.post enc Tryz.prog Tryz.f4 false true false false) := by
  refine returnsInHanded_of_change_and (C := Tryz.checked) (X := fun w _ => laidMetH Tryz.prog Rows.corpusEncodesRow.laid w) (fun _ _ _ hh h => h.of_heap hh) own started (by kernel_rfl) Tryz.func4
    (ChangeSpec.witness_shaped (enc := enc) (C := Tryz.checked) (os := os) (X := fun w _ => laidMetH Tryz.prog Rows.corpusEncodesRow.laid w) false (World.laidAll Tryz.prog os Rows.corpusEncodesRow.laid) #[.slice none 0 0] 8 (World.laidAll_os _ _ _)
      (World.shaped_of_ZipB (by kernel_rfl) (by kernel_rfl)) (by kernel_rfl) (by kernel_rfl) (by kernel_rfl)
      (by rw [MakeChecks.laidMetH_plain _ _ _ (by kernel_rfl)]; exact laidMet_laidAll _ (by kernel_rfl) (by kernel_rfl))) ?_
  intro W base args ds gs before hval0 hW hc _ hL _
  have hval : ∀ (j : Nat) t v, Tryz.f4.params[j]? = some t → args[j]? = some v → Value.okWide Tryz.prog W .any base t v := hval0
  have hW' := hW
  obtain ⟨p, q, hA0, hV, rfl, _, _⟩ := hW
  have hA : DataW.TrodAll enc Tryz.prog W 0 (fun _ => true) true Tryz.f4.params.toList args.toList ds p := hA0
  rw [Tryz.params4] at hA hval
  obtain ⟨v0, d0, rfl, rfl, h0⟩ := trodAll_one hA
  obtain ⟨rfl, rfl⟩ := trodVars_none hV
  obtain ⟨A, n, c, hv⟩ := okWide_slice Tryz.underlying24 (hval 0 24 v0 rfl rfl)
  obtain ⟨bs, hbs⟩ := arg_VR ⟨A, n, c, hv⟩ h0
  simp only [List.append_nil] at hW'
  refine (law_calls W bs v0 hbs).mono fun e W' ⟨he, hb⟩ => ?_
  subst he
  have hlt : ∀ x ∈ p, x.block < W.heap.size := fun x hx => hW'.lt x hx
  refine ⟨_, rfl, [d0], [], p, [], p, [], hW', ?_, ?_, ?_, ?_, fun h => by cases h⟩
  · exact trodAll_mk1 (shut_bool Tryz.underlying4 true)
  · exact trodAll_mk1 (Below.trod laidOut (by kernel_rfl) (of_decide_eq_true (by kernel_rfl)) h0 hb hlt)
  · rfl
  · exact hb.frame _
end Go.Proofs.YtjleeecaebgblaaGreatDoor
namespace Go.Proofs.YtjleeecaebgblaaGreatDoor
open Go
theorem corpusEncodes_holds : Rows.CorpusEncodesSaid :=
  OpenClaim.holds_of_wide 4 Tryz.f4 rfl rfl rfl rfl rfl rfl rfl ⟨rfl, rfl, rfl, rfl, rfl⟩ rfl rfl rfl rfl rfl named4 Tryz.func4 closed inst4 wrap4
    (fun os started H enc _ => lifted os started H enc)
theorem corpusEncodes_card_holds : Rows.CorpusEncodesCardSaid :=
  Claim7.holds_tied_plain_at .later [] [.data, .data, .data, .data, .sentinel, .sentinel, .pinned] true (true, "5e461cadbcc00d23784929b911fdd75f258319b34b34d684f8535a4541c5246e") true corpusEncodes_holds (fun _ h => by cases h) wfText (fun _ h => by cases h) corpusEncodes_row_tie rfl ⟨rfl, rfl⟩ main4 rfl
    (fun f fn hf hfn => by
      obtain rfl : f = 4 := Option.some.inj (named4.symm.trans hf) |>.symm
      obtain rfl : fn = Tryz.f4 := (Option.some.inj (Tryz.func4.symm.trans hfn)).symm
      exact ⟨looks4, fun j t ht => by
        rw [Tryz.params4] at ht
        have hm : t ∈ [24] := by simpa using Array.mem_of_getElem? ht
        exact (show Tryz.prog.wantsStandIn t = false by simpa using List.all_eq_true.1 stand4 t hm)⟩)
    goes4
#print axioms corpusEncodes_card_holds
end Go.Proofs.YtjleeecaebgblaaGreatDoor
