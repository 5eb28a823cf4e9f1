import Derived.Test.YtlnnhldhhaooiaaBj

set_option linter.unusedVariables false
set_option linter.unusedSimpArgs false
set_option linter.unusedSectionVars false
set_option linter.unnecessarySimpa false

section
namespace Go.Proofs.Tryt17A
open Go Go.AM
set_option linter.unusedSimpArgs false
set_option linter.unusedVariables false
section
variable {N : Nat} {h : Heap} {la lb : List (Int × Int)} {to : List Int} {v w u was own l un c wo r p e : AV} (L : L3 N h la lb to v w u was own l un c wo r p e)
include L

set_option maxHeartbeats 4000000 in
theorem f3_l0 (Q : Ex → St → Prop) (f0 : Nat → AV)
    (g0 : f0 0 = v) (g1 : f0 1 = w) (g2 : f0 2 = u) (g9 : f0 9 = l) (g10 : f0 10 = un) (g11 : f0 11 = c) (g12 : f0 12 = wo) (g13 : f0 13 = r) (g14 : f0 14 = p) (g15 : f0 15 = e)
    (q0 : ∀ f', (∀ n, n < 16 → f' n = f0 n) → Q (.exit 0) ⟨mkfr 255 f', [], h⟩)
    (f : Nat → AV) (hf : ∀ n, n < 16 → f n = f0 n) (k : Nat) (hk : k ≤ (endsL la lb to).length) (h16 : f 16 = .int .i64 k) :
    R (T prim23 prim36) ⟨N, none⟩ c3_l0 ⟨mkfr 255 f, [], h⟩ Q := by
  have f0' := (hf 0 (by omega)).trans g0
  have f1' := (hf 1 (by omega)).trans g1
  have f2' := (hf 2 (by omega)).trans g2
  have f9' := (hf 9 (by omega)).trans g9
  have f10' := (hf 10 (by omega)).trans g10
  have f11' := (hf 11 (by omega)).trans g11
  have f12' := (hf 12 (by omega)).trans g12
  have f13' := (hf 13 (by omega)).trans g13
  have f14' := (hf 14 (by omega)).trans g14
  have f15' := (hf 15 (by omega)).trans g15
  rw [c3_l0, R_loop, ← c3_l0, c3_lb0]
  by_cases hlt : k < (endsL la lb to).length
  · have e1 : ((k : Int) < ((endsL la lb to).length : Int)) = True := by simp; omega
    have hlm : k < ((endsL la lb to).map encI).length := by simpa using hlt
    have hle := L.ne
    have hla := L.nla
    have hlb := L.nlb
    have hto := L.nto
    have hm := List.length_map (as := endsL la lb to) encI
    have next : ∀ f' : Nat → AV, (∀ n, n < 16 → f' n = f0 n) → f' 16 = .int .i64 ((k : Int) + 1) → R (T prim23 prim36) ⟨N, none⟩ c3_l0 ⟨mkfr 255 f', [], h⟩ Q := fun f' g g18 =>
      f3_l0 Q f0 g0 g1 g2 g9 g10 g11 g12 g13 g14 g15 q0 f' g (k + 1) hlt (by rw [g18]; rfl)
    generalize hy : (endsL la lb to)[k] = x
    have ey : partOf false 0 1 (((endsL la lb to).map encI).getD k []) = some (.int .i64 x) := by rw [encI_get _ k hlt, hy]; rfl
    have lx := L.se.ld hlm (k := .i64) (ag := false) (n := 1)
    rw [ey] at lx
    have ix := L.se.ixs hlm (k := .i64)
    have c1 := f16_spec (p23 := prim23) (p36 := prim36) (cx := ⟨N, none⟩) _ x r L.sr L.nr L.nN
    have c2 := f17_spec (p23 := prim23) (p36 := prim36) (cx := ⟨N, none⟩) la to x v u L.sv (by omega) L.su (by omega) L.nN
    have c3 := f16_spec (p23 := prim23) (p36 := prim36) (cx := ⟨N, none⟩) _ x p L.sp L.np L.nN
    have c4 := f16_spec (p23 := prim23) (p36 := prim36) (cx := ⟨N, none⟩) to x u L.su (by omega) L.nN
    rw [inB_rl] at c1
    rw [inB_pl] at c3
    simp (disch := omega) only [RK_seq, RK_region0, RK_block, RK_cond, RK_skip, RK_ret, RK_exit, RE_seq, RE_seq_exit, RE_seq_ret, RE_block, RE_block_ret, RE_block_exit, RE_nil, RO_mv, RO_len, RO_bin, RO_binb, RO_un, RO_pick, RO_ixs, RO_fld, RO_part, RO_ixa, RO_ixv, RO_eqa, RO_eqn, RO_mx2, RO_mn2, RO_build2, RO_lit0, RO_lit1, RO_lit2, RO_mkfn0, RO_mkfn1, RO_cap, RO_slice_l, RO_slice_h, RO_slice_lh, RO_box, RO_alloc, RO_store, RO_clear, RO_callv0, RO_callv1, RO_callv2, RO_append, RO_load, RO_callf0, RO_callf1, RO_callf2, RO_callf3, RO_callf4, RO_guard, RO_nil, put_fr, opd_t, opd_c, upd_eq', upd_ne, ne_eq, ↓OM_some, ↓OM_none, ↓CM_bool, ↓CB_true, ↓CB_false, ↓GM_t, ↓GM_f, ↓GM_tup, OM_some, OM_none, CM_bool, CB_true, CB_false, GM_t, GM_f, GM_tup, reduceIte, reduceCtorEq, Nat.reduceLT, Nat.reduceEqDiff, not_false_eq_true, not_true_eq_false, bin_add, bin_sub, bin_mul, bin_eql, bin_neq, bin_lss, bin_leq, bin_gtr, bin_geq, bin_seql, bin_sneq, binb_eql, binb_neq, un_not, un_neg, pick_t, pick_f, mn_2, mx_2, len_nils, len_fs, len_row, eqa_2, bld2_int, lit2_int, decide_true, decide_false, Bool.not_true, Bool.not_false, Bool.false_eq_true, List.length_map, List.getD_cons_zero, List.getD_cons_succ, List.getD_nil, c3_r10, f15', h16, L.se.len, e1, c3_r11, ix, lx, c3_r12, c3_r14, f0', f2', f13', f14', c1, c2, c3, c4, eq_self]
    refine f3_l1 L _ _ (by simp [upd', f0']) (by simp [upd', f1']) (by simp [upd', f2']) (by simp [upd', f9']) (by simp [upd', f10']) (by simp [upd', f11']) (by simp [upd', f12']) (by simp [upd', f15']) x (by simp [upd']) (fun f' g => ?_) _ (fun _ _ => rfl) 0 (Nat.zero_le _) (by simp [upd'])
    have g16 := g 16 (by omega)
    simp [upd', h16] at g16
    simp (disch := omega) only [RK_seq, RK_region0, RK_block, RK_cond, RK_skip, RK_ret, RK_exit, RE_seq, RE_seq_exit, RE_seq_ret, RE_block, RE_block_ret, RE_block_exit, RE_nil, RO_mv, RO_len, RO_bin, RO_binb, RO_un, RO_pick, RO_ixs, RO_fld, RO_part, RO_ixa, RO_ixv, RO_eqa, RO_eqn, RO_mx2, RO_mn2, RO_build2, RO_lit0, RO_lit1, RO_lit2, RO_mkfn0, RO_mkfn1, RO_cap, RO_slice_l, RO_slice_h, RO_slice_lh, RO_box, RO_alloc, RO_store, RO_clear, RO_callv0, RO_callv1, RO_callv2, RO_append, RO_load, RO_callf0, RO_callf1, RO_callf2, RO_callf3, RO_callf4, RO_guard, RO_nil, put_fr, opd_t, opd_c, upd_eq', upd_ne, ne_eq, ↓OM_some, ↓OM_none, ↓CM_bool, ↓CB_true, ↓CB_false, ↓GM_t, ↓GM_f, ↓GM_tup, OM_some, OM_none, CM_bool, CB_true, CB_false, GM_t, GM_f, GM_tup, reduceIte, reduceCtorEq, Nat.reduceLT, Nat.reduceEqDiff, not_false_eq_true, not_true_eq_false, bin_add, bin_sub, bin_mul, bin_eql, bin_neq, bin_lss, bin_leq, bin_gtr, bin_geq, bin_seql, bin_sneq, binb_eql, binb_neq, un_not, un_neg, pick_t, pick_f, mn_2, mx_2, len_nils, len_fs, len_row, eqa_2, bld2_int, lit2_int, decide_true, decide_false, Bool.not_true, Bool.not_false, Bool.false_eq_true, List.length_map, List.getD_cons_zero, List.getD_cons_succ, List.getD_nil, c3_r21, g16, wrap64]
    refine next _ (fun n hn => ?_) (by simp [upd'])
    have gn := g n (by omega)
    simp (disch := omega) only [upd_ne] at gn ⊢
    rw [gn]
    exact hf n hn
  · have : k = (endsL la lb to).length := by omega
    subst this
    have hm := List.length_map (as := endsL la lb to) encI
    simp (disch := omega) only [RK_seq, RK_region0, RK_block, RK_cond, RK_skip, RK_ret, RK_exit, RE_seq, RE_seq_exit, RE_seq_ret, RE_block, RE_block_ret, RE_block_exit, RE_nil, RO_mv, RO_len, RO_bin, RO_binb, RO_un, RO_pick, RO_ixs, RO_fld, RO_part, RO_ixa, RO_ixv, RO_eqa, RO_eqn, RO_mx2, RO_mn2, RO_build2, RO_lit0, RO_lit1, RO_lit2, RO_mkfn0, RO_mkfn1, RO_cap, RO_slice_l, RO_slice_h, RO_slice_lh, RO_box, RO_alloc, RO_store, RO_clear, RO_callv0, RO_callv1, RO_callv2, RO_append, RO_load, RO_callf0, RO_callf1, RO_callf2, RO_callf3, RO_callf4, RO_guard, RO_nil, put_fr, opd_t, opd_c, upd_eq', upd_ne, ne_eq, ↓OM_some, ↓OM_none, ↓CM_bool, ↓CB_true, ↓CB_false, ↓GM_t, ↓GM_f, ↓GM_tup, OM_some, OM_none, CM_bool, CB_true, CB_false, GM_t, GM_f, GM_tup, reduceIte, reduceCtorEq, Nat.reduceLT, Nat.reduceEqDiff, not_false_eq_true, not_true_eq_false, bin_add, bin_sub, bin_mul, bin_eql, bin_neq, bin_lss, bin_leq, bin_gtr, bin_geq, bin_seql, bin_sneq, binb_eql, binb_neq, un_not, un_neg, pick_t, pick_f, mn_2, mx_2, len_nils, len_fs, len_row, eqa_2, bld2_int, lit2_int, decide_true, decide_false, Bool.not_true, Bool.not_false, Bool.false_eq_true, List.length_map, List.getD_cons_zero, List.getD_cons_succ, List.getD_nil, c3_r10, f15', h16, L.se.len, hm, Int.lt_irrefl]
    refine q0 _ (fun n hn => ?_)
    simp (disch := omega) only [upd_ne]
    exact hf n hn
termination_by (endsL la lb to).length - k

theorem f3_l2 (Q : Ex → St → Prop) (f0 : Nat → AV) (g0 : f0 0 = v) (g9 : f0 9 = l)
    (q0 : ∀ f', (∀ n, n < 16 → f' n = f0 n) → f' 21 = .int .i64 (ofL la).length → Q (.exit 4) ⟨mkfr 255 f', [], h⟩)
    (f : Nat → AV) (hf : ∀ n, n < 16 → f n = f0 n) (k : Nat) (hk : k ≤ (ofL la).length) (h21 : f 21 = .int .i64 k) (h22 : f 22 = .int .i64 k) :
    R (T prim23 prim36) ⟨N, none⟩ c3_l2 ⟨mkfr 255 f, [], h⟩ Q := by
  have f0' := (hf 0 (by omega)).trans g0
  have f9' := (hf 9 (by omega)).trans g9
  have hm := List.length_map (as := ofL la) encP
  rw [c3_l2, R_loop, ← c3_l2, c3_lb2]
  by_cases hlt : k < (ofL la).length
  · have e1 : ((k : Int) < ((ofL la).length : Int)) = True := by simp; omega
    have hlm : k < ((ofL la).map encP).length := by simpa using hlt
    have hle := L.nl
    have hla := L.nla
    have next : ∀ f' : Nat → AV, (∀ n, n < 16 → f' n = f0 n) → f' 21 = .int .i64 ((k : Int) + 1) → f' 22 = .int .i64 ((k : Int) + 1) → R (T prim23 prim36) ⟨N, none⟩ c3_l2 ⟨mkfr 255 f', [], h⟩ Q := fun f' g g21 g22 =>
      f3_l2 Q f0 g0 g9 q0 f' g (k + 1) hlt (by rw [g21]; rfl) (by rw [g22]; rfl)
    have hin : (ofL la)[k] ∈ ofL la := List.getElem_mem _
    have ok := ofL_ok hin
    have hh := (good_has ok).1 ((ofL_mem _ _).1 hin)
    have hat := L.sl.pt hlm (k := .i64)
    rw [encP_get _ k hlt] at hat
    have a0 := hat.ixa0 (k := .i64) (len := 2) (z := 1) (by decide)
    have a1 := hat.ixa1 (k := .i64) (len := 2) (z := 1) (by decide) (by simp)
    have l0 := hat.ldf (off := 0) (by simp) (ag := false) (n := 1)
    have l1 := hat.ldf (off := 1) (by simp) (ag := false) (n := 1)
    rw [partP0] at l0
    rw [partP1] at l1
    have c1 := f18_spec (p23 := prim23) (p36 := prim36) (cx := ⟨N, none⟩) la (ofL la)[k].1 (ofL la)[k].2 v L.sv (by omega) L.nN
    rw [hh] at c1
    simp (disch := omega) only [RK_seq, RK_region0, RK_block, RK_cond, RK_skip, RK_ret, RK_exit, RE_seq, RE_seq_exit, RE_seq_ret, RE_block, RE_block_ret, RE_block_exit, RE_nil, RO_mv, RO_len, RO_bin, RO_binb, RO_un, RO_pick, RO_ixs, RO_fld, RO_part, RO_ixa, RO_ixv, RO_eqa, RO_eqn, RO_mx2, RO_mn2, RO_build2, RO_lit0, RO_lit1, RO_lit2, RO_mkfn0, RO_mkfn1, RO_cap, RO_slice_l, RO_slice_h, RO_slice_lh, RO_box, RO_alloc, RO_store, RO_clear, RO_callv0, RO_callv1, RO_callv2, RO_append, RO_load, RO_callf0, RO_callf1, RO_callf2, RO_callf3, RO_callf4, RO_guard, RO_nil, put_fr, opd_t, opd_c, upd_eq', upd_ne, ne_eq, ↓OM_some, ↓OM_none, ↓CM_bool, ↓CB_true, ↓CB_false, ↓GM_t, ↓GM_f, ↓GM_tup, OM_some, OM_none, CM_bool, CB_true, CB_false, GM_t, GM_f, GM_tup, reduceIte, reduceCtorEq, Nat.reduceLT, Nat.reduceEqDiff, not_false_eq_true, not_true_eq_false, bin_add, bin_sub, bin_mul, bin_eql, bin_neq, bin_lss, bin_leq, bin_gtr, bin_geq, bin_seql, bin_sneq, binb_eql, binb_neq, un_not, un_neg, pick_t, pick_f, mn_2, mx_2, len_nils, len_fs, len_row, eqa_2, bld2_int, lit2_int, decide_true, decide_false, Bool.not_true, Bool.not_false, Bool.false_eq_true, List.length_map, List.getD_cons_zero, List.getD_cons_succ, List.getD_nil, c3_r24, f9', h22, L.sl.len, e1, c3_r25, L.sl.ixs hlm, a0, a1, l0, l1, f0', c1, c3_r26, h21, wrap64, c3_r27]
    refine next _ (fun n hn => ?_) (by simp [upd']) (by simp [upd'])
    simp (disch := omega) only [upd_ne]
    exact hf n hn
  · have : k = (ofL la).length := by omega
    subst this
    simp (disch := omega) only [RK_seq, RK_region0, RK_block, RK_cond, RK_skip, RK_ret, RK_exit, RE_seq, RE_seq_exit, RE_seq_ret, RE_block, RE_block_ret, RE_block_exit, RE_nil, RO_mv, RO_len, RO_bin, RO_binb, RO_un, RO_pick, RO_ixs, RO_fld, RO_part, RO_ixa, RO_ixv, RO_eqa, RO_eqn, RO_mx2, RO_mn2, RO_build2, RO_lit0, RO_lit1, RO_lit2, RO_mkfn0, RO_mkfn1, RO_cap, RO_slice_l, RO_slice_h, RO_slice_lh, RO_box, RO_alloc, RO_store, RO_clear, RO_callv0, RO_callv1, RO_callv2, RO_append, RO_load, RO_callf0, RO_callf1, RO_callf2, RO_callf3, RO_callf4, RO_guard, RO_nil, put_fr, opd_t, opd_c, upd_eq', upd_ne, ne_eq, ↓OM_some, ↓OM_none, ↓CM_bool, ↓CB_true, ↓CB_false, ↓GM_t, ↓GM_f, ↓GM_tup, OM_some, OM_none, CM_bool, CB_true, CB_false, GM_t, GM_f, GM_tup, reduceIte, reduceCtorEq, Nat.reduceLT, Nat.reduceEqDiff, not_false_eq_true, not_true_eq_false, bin_add, bin_sub, bin_mul, bin_eql, bin_neq, bin_lss, bin_leq, bin_gtr, bin_geq, bin_seql, bin_sneq, binb_eql, binb_neq, un_not, un_neg, pick_t, pick_f, mn_2, mx_2, len_nils, len_fs, len_row, eqa_2, bld2_int, lit2_int, decide_true, decide_false, Bool.not_true, Bool.not_false, Bool.false_eq_true, List.length_map, List.getD_cons_zero, List.getD_cons_succ, List.getD_nil, c3_r24, f9', h22, L.sl.len, hm, Int.lt_irrefl]
    refine q0 _ (fun n hn => ?_) (by simp [upd', h21])
    simp (disch := omega) only [upd_ne]
    exact hf n hn
termination_by (ofL la).length - k

theorem f3_l3 (Q : Ex → St → Prop) (f0 : Nat → AV) (g0 : f0 0 = v) (g7 : f0 7 = was)
    (q0 : ∀ f', (∀ n, n < 22 → f' n = f0 n) → Q (.exit 6) ⟨mkfr 255 f', [], h⟩)
    (f : Nat → AV) (hf : ∀ n, n < 22 → f n = f0 n) (k : Nat) (hk : k ≤ la.length) (h23 : f 23 = .int .i64 k) :
    R (T prim23 prim36) ⟨N, none⟩ c3_l3 ⟨mkfr 255 f, [], h⟩ Q := by
  have f0' := (hf 0 (by omega)).trans g0
  have f7' := (hf 7 (by omega)).trans g7
  have hm := List.length_map (as := la) encP
  rw [c3_l3, R_loop, ← c3_l3, c3_lb3]
  by_cases hlt : k < la.length
  · have e1 : ((k : Int) < (la.length : Int)) = True := by simp; omega
    have hlm : k < (la.map encP).length := by simpa using hlt
    have hla := L.nla
    have next : ∀ f' : Nat → AV, (∀ n, n < 22 → f' n = f0 n) → f' 23 = .int .i64 ((k : Int) + 1) → R (T prim23 prim36) ⟨N, none⟩ c3_l3 ⟨mkfr 255 f', [], h⟩ Q := fun f' g g21 =>
      f3_l3 Q f0 g0 g7 q0 f' g (k + 1) hlt (by rw [g21]; rfl)
    simp (disch := omega) only [RK_seq, RK_region0, RK_block, RK_cond, RK_skip, RK_ret, RK_exit, RE_seq, RE_seq_exit, RE_seq_ret, RE_block, RE_block_ret, RE_block_exit, RE_nil, RO_mv, RO_len, RO_bin, RO_binb, RO_un, RO_pick, RO_ixs, RO_fld, RO_part, RO_ixa, RO_ixv, RO_eqa, RO_eqn, RO_mx2, RO_mn2, RO_build2, RO_lit0, RO_lit1, RO_lit2, RO_mkfn0, RO_mkfn1, RO_cap, RO_slice_l, RO_slice_h, RO_slice_lh, RO_box, RO_alloc, RO_store, RO_clear, RO_callv0, RO_callv1, RO_callv2, RO_append, RO_load, RO_callf0, RO_callf1, RO_callf2, RO_callf3, RO_callf4, RO_guard, RO_nil, put_fr, opd_t, opd_c, upd_eq', upd_ne, ne_eq, ↓OM_some, ↓OM_none, ↓CM_bool, ↓CB_true, ↓CB_false, ↓GM_t, ↓GM_f, ↓GM_tup, OM_some, OM_none, CM_bool, CB_true, CB_false, GM_t, GM_f, GM_tup, reduceIte, reduceCtorEq, Nat.reduceLT, Nat.reduceEqDiff, not_false_eq_true, not_true_eq_false, bin_add, bin_sub, bin_mul, bin_eql, bin_neq, bin_lss, bin_leq, bin_gtr, bin_geq, bin_seql, bin_sneq, binb_eql, binb_neq, un_not, un_neg, pick_t, pick_f, mn_2, mx_2, len_nils, len_fs, len_row, eqa_2, bld2_int, lit2_int, decide_true, decide_false, Bool.not_true, Bool.not_false, Bool.false_eq_true, List.length_map, List.getD_cons_zero, List.getD_cons_succ, List.getD_nil, c3_r29, f0', h23, L.sv.len, e1, c3_r30, L.sv.ixs hlm, L.sv.ld hlm, encP_get la k hlt, part2, f7', L.swas.ixs hlm, L.swas.ld hlm, eq_self, Bool.and_self, bne_self_eq_false, c3_r32, wrap64]
    refine next _ (fun n hn => ?_) (by simp [upd'])
    simp (disch := omega) only [upd_ne]
    exact hf n hn
  · have : k = la.length := by omega
    subst this
    simp (disch := omega) only [RK_seq, RK_region0, RK_block, RK_cond, RK_skip, RK_ret, RK_exit, RE_seq, RE_seq_exit, RE_seq_ret, RE_block, RE_block_ret, RE_block_exit, RE_nil, RO_mv, RO_len, RO_bin, RO_binb, RO_un, RO_pick, RO_ixs, RO_fld, RO_part, RO_ixa, RO_ixv, RO_eqa, RO_eqn, RO_mx2, RO_mn2, RO_build2, RO_lit0, RO_lit1, RO_lit2, RO_mkfn0, RO_mkfn1, RO_cap, RO_slice_l, RO_slice_h, RO_slice_lh, RO_box, RO_alloc, RO_store, RO_clear, RO_callv0, RO_callv1, RO_callv2, RO_append, RO_load, RO_callf0, RO_callf1, RO_callf2, RO_callf3, RO_callf4, RO_guard, RO_nil, put_fr, opd_t, opd_c, upd_eq', upd_ne, ne_eq, ↓OM_some, ↓OM_none, ↓CM_bool, ↓CB_true, ↓CB_false, ↓GM_t, ↓GM_f, ↓GM_tup, OM_some, OM_none, CM_bool, CB_true, CB_false, GM_t, GM_f, GM_tup, reduceIte, reduceCtorEq, Nat.reduceLT, Nat.reduceEqDiff, not_false_eq_true, not_true_eq_false, bin_add, bin_sub, bin_mul, bin_eql, bin_neq, bin_lss, bin_leq, bin_gtr, bin_geq, bin_seql, bin_sneq, binb_eql, binb_neq, un_not, un_neg, pick_t, pick_f, mn_2, mx_2, len_nils, len_fs, len_row, eqa_2, bld2_int, lit2_int, decide_true, decide_false, Bool.not_true, Bool.not_false, Bool.false_eq_true, List.length_map, List.getD_cons_zero, List.getD_cons_succ, List.getD_nil, c3_r29, f0', h23, L.sv.len, hm, Int.lt_irrefl]
    refine q0 _ (fun n hn => ?_)
    simp (disch := omega) only [upd_ne]
    exact hf n hn
termination_by la.length - k

theorem f3_l4 (Q : Ex → St → Prop) (f0 : Nat → AV) (g2 : f0 2 = u) (g8 : f0 8 = own)
    (q0 : ∀ f', (∀ n, n < 22 → f' n = f0 n) → Q (.exit 8) ⟨mkfr 255 f', [], h⟩)
    (f : Nat → AV) (hf : ∀ n, n < 22 → f n = f0 n) (k : Nat) (hk : k ≤ to.length) (h24 : f 24 = .int .i64 k) :
    R (T prim23 prim36) ⟨N, none⟩ c3_l4 ⟨mkfr 255 f, [], h⟩ Q := by
  have f2' := (hf 2 (by omega)).trans g2
  have f8' := (hf 8 (by omega)).trans g8
  have hm := List.length_map (as := to) encI
  rw [c3_l4, R_loop, ← c3_l4, c3_lb4]
  by_cases hlt : k < to.length
  · have e1 : ((k : Int) < (to.length : Int)) = True := by simp; omega
    have hlm : k < (to.map encI).length := by simpa using hlt
    have hla := L.nto
    have next : ∀ f' : Nat → AV, (∀ n, n < 22 → f' n = f0 n) → f' 24 = .int .i64 ((k : Int) + 1) → R (T prim23 prim36) ⟨N, none⟩ c3_l4 ⟨mkfr 255 f', [], h⟩ Q := fun f' g g21 =>
      f3_l4 Q f0 g2 g8 q0 f' g (k + 1) hlt (by rw [g21]; rfl)
    simp (disch := omega) only [RK_seq, RK_region0, RK_block, RK_cond, RK_skip, RK_ret, RK_exit, RE_seq, RE_seq_exit, RE_seq_ret, RE_block, RE_block_ret, RE_block_exit, RE_nil, RO_mv, RO_len, RO_bin, RO_binb, RO_un, RO_pick, RO_ixs, RO_fld, RO_part, RO_ixa, RO_ixv, RO_eqa, RO_eqn, RO_mx2, RO_mn2, RO_build2, RO_lit0, RO_lit1, RO_lit2, RO_mkfn0, RO_mkfn1, RO_cap, RO_slice_l, RO_slice_h, RO_slice_lh, RO_box, RO_alloc, RO_store, RO_clear, RO_callv0, RO_callv1, RO_callv2, RO_append, RO_load, RO_callf0, RO_callf1, RO_callf2, RO_callf3, RO_callf4, RO_guard, RO_nil, put_fr, opd_t, opd_c, upd_eq', upd_ne, ne_eq, ↓OM_some, ↓OM_none, ↓CM_bool, ↓CB_true, ↓CB_false, ↓GM_t, ↓GM_f, ↓GM_tup, OM_some, OM_none, CM_bool, CB_true, CB_false, GM_t, GM_f, GM_tup, reduceIte, reduceCtorEq, Nat.reduceLT, Nat.reduceEqDiff, not_false_eq_true, not_true_eq_false, bin_add, bin_sub, bin_mul, bin_eql, bin_neq, bin_lss, bin_leq, bin_gtr, bin_geq, bin_seql, bin_sneq, binb_eql, binb_neq, un_not, un_neg, pick_t, pick_f, mn_2, mx_2, len_nils, len_fs, len_row, eqa_2, bld2_int, lit2_int, decide_true, decide_false, Bool.not_true, Bool.not_false, Bool.false_eq_true, List.length_map, List.getD_cons_zero, List.getD_cons_succ, List.getD_nil, c3_r34, f2', h24, L.su.len, e1, c3_r35, L.su.ixs hlm, L.su.ld hlm, encI_get to k hlt, part1, f8', L.sown.ixs hlm, L.sown.ld hlm, eq_self, c3_r37, wrap64]
    refine next _ (fun n hn => ?_) (by simp [upd'])
    simp (disch := omega) only [upd_ne]
    exact hf n hn
  · have : k = to.length := by omega
    subst this
    simp (disch := omega) only [RK_seq, RK_region0, RK_block, RK_cond, RK_skip, RK_ret, RK_exit, RE_seq, RE_seq_exit, RE_seq_ret, RE_block, RE_block_ret, RE_block_exit, RE_nil, RO_mv, RO_len, RO_bin, RO_binb, RO_un, RO_pick, RO_ixs, RO_fld, RO_part, RO_ixa, RO_ixv, RO_eqa, RO_eqn, RO_mx2, RO_mn2, RO_build2, RO_lit0, RO_lit1, RO_lit2, RO_mkfn0, RO_mkfn1, RO_cap, RO_slice_l, RO_slice_h, RO_slice_lh, RO_box, RO_alloc, RO_store, RO_clear, RO_callv0, RO_callv1, RO_callv2, RO_append, RO_load, RO_callf0, RO_callf1, RO_callf2, RO_callf3, RO_callf4, RO_guard, RO_nil, put_fr, opd_t, opd_c, upd_eq', upd_ne, ne_eq, ↓OM_some, ↓OM_none, ↓CM_bool, ↓CB_true, ↓CB_false, ↓GM_t, ↓GM_f, ↓GM_tup, OM_some, OM_none, CM_bool, CB_true, CB_false, GM_t, GM_f, GM_tup, reduceIte, reduceCtorEq, Nat.reduceLT, Nat.reduceEqDiff, not_false_eq_true, not_true_eq_false, bin_add, bin_sub, bin_mul, bin_eql, bin_neq, bin_lss, bin_leq, bin_gtr, bin_geq, bin_seql, bin_sneq, binb_eql, binb_neq, un_not, un_neg, pick_t, pick_f, mn_2, mx_2, len_nils, len_fs, len_row, eqa_2, bld2_int, lit2_int, decide_true, decide_false, Bool.not_true, Bool.not_false, Bool.false_eq_true, List.length_map, List.getD_cons_zero, List.getD_cons_succ, List.getD_nil, c3_r34, f2', h24, L.su.len, hm, Int.lt_irrefl]
    refine q0 _ (fun n hn => ?_)
    simp (disch := omega) only [upd_ne]
    exact hf n hn
termination_by to.length - k
end
end Go.Proofs.Tryt17A
end

section
namespace Go.Proofs.Tryt17A
open Go Go.AM
set_option linter.unusedSimpArgs false
set_option linter.unusedVariables false
variable {cx : Ctx} {H : Heap}

theorem goodL_len' (l : List (Int × Int)) : (ofL l).length ≤ l.length := by
  have := dd_lenP (sortP (goodL l)) (sortP (goodL l)).length
  have h2 := (sortP_perm (goodL l)).length_eq
  have h3 := goodL_len l
  unfold ofL
  omega
theorem clL_len {l : List (Int × Int)} {to : List Int} (ht : to.length ≤ 40) : (clL l to).length ≤ l.length + 1600 := by
  have := goodL_len' (l ++ clo to to.length)
  have h2 := clo_len to to.length (Nat.le_refl _)
  have h3 : to.length * to.length ≤ 40 * 40 := Nat.mul_le_mul ht ht
  simp only [List.length_append] at this
  unfold clL
  omega
theorem woL_len (l : List (Int × Int)) (to : List Int) : (woL l to).length ≤ l.length := Nat.le_trans (List.length_filter_le _ _) (goodL_len' l)
theorem rlL_len (l : List (Int × Int)) (to : List Int) : (rlL l to).length ≤ to.length + 2 * l.length := by
  have h1 := plL_len (plL to ++ coll (plL to) (goodL l))
  have h2 := coll_len (plL to) (goodL l)
  have h3 := goodL_len l
  have h4 := plL_len to
  simp only [List.length_append] at h1
  unfold rlL
  omega
theorem endsL_len (l m : List (Int × Int)) (to : List Int) : (endsL l m to).length = 4 + to.length + 2 * l.length + 2 * m.length := by
  simp [endsL, fl_len]; omega

theorem great3 {a b c : Int} : greatB [a, b, c] = false → a ≤ 40 ∧ b ≤ 40 ∧ c ≤ 40 := by
  simp [greatB]

set_option maxHeartbeats 4000000 in
theorem f3_spec {la lb : List (Int × Int)} {to : List Int} {v w u : AV} (hv : Fz v (la.map encP)) (hb : Fz w (lb.map encP)) (hu : Fz u (to.map encI)) (hw : cx.wp ≤ H.length) :
    callF (T prim23 prim36) (ev (T prim23 prim36)) cx 3 [v, w, u] H = some (.bool true, H) := by
  refine callF_code2 (a := a3) rfl rfl hw (Nat.le_of_ble_eq_true rfl) rfl ?_
  simp only [a3, c3]
  have sv := hv.sl (lensP _) H
  have sw := hb.sl (lensP _) H
  have su := hu.sl (lensI _) H
  have hml := List.length_map (as := la) encP
  have hmb := List.length_map (as := lb) encP
  have hmt := List.length_map (as := to) encI
  have c5 := f5_spec (p23 := prim23) (p36 := prim36) (cx := ⟨H.length, none⟩) (H := H) [(la.length : Int), lb.length, to.length] (.fs ([(la.length : Int), lb.length, to.length].map encI) true) (.fs (lensI _)) (by simp) (Nat.le_refl _)
  cases hg : greatB [(la.length : Int), lb.length, to.length] with
  | true =>
    rw [hg] at c5
    simp (disch := omega) only [RK_seq, RK_region0, RK_block, RK_cond, RK_skip, RK_ret, RK_exit, RE_seq, RE_seq_exit, RE_seq_ret, RE_block, RE_block_ret, RE_block_exit, RE_nil, RO_mv, RO_len, RO_bin, RO_binb, RO_un, RO_pick, RO_ixs, RO_fld, RO_part, RO_ixa, RO_ixv, RO_eqa, RO_eqn, RO_mx2, RO_mn2, RO_build2, RO_lit0, RO_lit1, RO_lit2, RO_mkfn0, RO_mkfn1, RO_cap, RO_slice_l, RO_slice_h, RO_slice_lh, RO_box, RO_alloc, RO_store, RO_clear, RO_callv0, RO_callv1, RO_callv2, RO_append, RO_load, RO_callf0, RO_callf1, RO_callf2, RO_callf3, RO_callf4, RO_guard, RO_nil, put_fr, opd_t, opd_c, upd_eq', upd_ne, ne_eq, ↓OM_some, ↓OM_none, ↓CM_bool, ↓CB_true, ↓CB_false, ↓GM_t, ↓GM_f, ↓GM_tup, OM_some, OM_none, CM_bool, CB_true, CB_false, GM_t, GM_f, GM_tup, reduceIte, reduceCtorEq, Nat.reduceLT, Nat.reduceEqDiff, not_false_eq_true, not_true_eq_false, bin_add, bin_sub, bin_mul, bin_eql, bin_neq, bin_lss, bin_leq, bin_gtr, bin_geq, bin_seql, bin_sneq, binb_eql, binb_neq, un_not, un_neg, pick_t, pick_f, mn_2, mx_2, len_nils, len_fs, len_row, eqa_2, bld2_int, lit2_int, decide_true, decide_false, Bool.not_true, Bool.not_false, Bool.false_eq_true, List.length_map, List.getD_cons_zero, List.getD_cons_succ, List.getD_nil, c3_r0, c3_r1, sv.len, sw.len, su.len, hml, hmb, hmt, RO_lit3, lit3_int, c5, c3_r2, f6_spec (cx := ⟨H.length, none⟩) (H := H) (Nat.le_refl _), FinQ_ret, res_t]
  | false =>
    rw [hg] at c5
    have hgg := great3 hg
    have nla : la.length ≤ 40 := by omega
    have nlb : lb.length ≤ 40 := by omega
    have nto : to.length ≤ 40 := by omega
    obtain ⟨ra, a1, a2⟩ := ap_hd (wp := H.length) (bytes := 16) sv (mxb (by omega)) (mx1 (by omega))
    obtain ⟨da, ka⟩ := Hd.own a2
    have su1 := hu.sl (lensI _) ra.2
    obtain ⟨rt, b1, b2⟩ := ap_hd (wp := H.length) (bytes := 8) su1 (mx8 (by omega)) (mx1 (by omega))
    obtain ⟨db, kb⟩ := Hd.own b2
    have kab := ka.trans kb
    obtain ⟨rl, l1, l2⟩ := f7_spec (cx := ⟨H.length, none⟩) (H := rt.2) (l := la) (v := v) hv.cells (fun h _ => hv.sl (lensP _) h) (mxb (by omega)) kab.1
    obtain ⟨dl, kl⟩ := Hd.own l2
    have kal := kab.trans kl
    obtain ⟨un, u1, u2⟩ := f8_spec (cx := ⟨H.length, none⟩) (H := rl.2) (hv.al (lensP _)) (hb.al (lensP _)) (mxb (by omega)) kal.1
    obtain ⟨c, c1, c2⟩ := f9_spec (cx := ⟨H.length, none⟩) (H := rl.2) hv hu (by omega) nto kal.1
    obtain ⟨wo, w1, w2⟩ := f10_spec (cx := ⟨H.length, none⟩) (H := rl.2) hv hu (mxb (by omega)) (by omega) kal.1
    obtain ⟨r, r1, r2⟩ := f11_spec (cx := ⟨H.length, none⟩) (H := rl.2) hv (hu.sl (lensI _) _) (by omega) (by omega) kal.1
    obtain ⟨rp, p1, p2⟩ := f12_spec (cx := ⟨H.length, none⟩) (H := rl.2) (hu.sl (lensI _) _) (mx8 (by omega)) kal.1
    obtain ⟨dp, kp⟩ := Hd.own p2
    have kap := kal.trans kp
    obtain ⟨e, e1, e2⟩ := f15_spec (cx := ⟨H.length, none⟩) (H := rp.2) hv hb hu (by omega) (by omega) (by omega) kap.1
    have L : L3 H.length rp.2 la lb to v w u ra.1 rt.1 rl.1 un c wo r rp.1 e := {
      fv := hv
      sv := hv.sl (lensP _) _
      sw := hb.sl (lensP _) _
      su := hu.sl (lensI _) _
      swas := (da.keep (kb.trans (kl.trans kp))).sl (lensP _)
      sown := (db.keep (kl.trans kp)).sl (lensI _)
      sl := (dl.keep kp).sl (lensP _)
      sun := u2.sl (lensP _) _
      sc := c2.sl (lensP _) _
      swo := w2.sl (lensP _) _
      sr := r2.sl (lensI _) _
      sp := dp.sl (lensI _)
      se := e2.sl (lensI _) _
      nN := kap.1
      nla := nla, nlb := nlb, nto := nto
      nl := by have := goodL_len' la; omega
      nu := by have := goodL_len' (la ++ lb); simp only [List.length_append] at this; omega
      nc := by have := clL_len (l := la) nto; omega
      nw := by have := woL_len la to; omega
      nr := by have := rlL_len la to; omega
      np := by have := plL_len to; omega
      ne := by rw [endsL_len]; omega }
    have k1 := f13_spec (p23 := prim23) (p36 := prim36) (cx := ⟨H.length, none⟩) _ _ L.sl L.nl L.nN
    have k2 := f13_spec (p23 := prim23) (p36 := prim36) (cx := ⟨H.length, none⟩) _ _ L.sun L.nu L.nN
    have k3 := f13_spec (p23 := prim23) (p36 := prim36) (cx := ⟨H.length, none⟩) _ _ L.sc L.nc L.nN
    have k4 := f13_spec (p23 := prim23) (p36 := prim36) (cx := ⟨H.length, none⟩) _ _ L.swo L.nw L.nN
    have k5 := f14_spec (p23 := prim23) (p36 := prim36) (cx := ⟨H.length, none⟩) _ _ L.sr L.nr L.nN
    have k6 := f14_spec (p23 := prim23) (p36 := prim36) (cx := ⟨H.length, none⟩) _ _ L.sp L.np L.nN
    rw [of_form] at k1 k2
    rw [cl_form] at k3
    rw [wo_form] at k4
    rw [rl_ris] at k5
    rw [pl_ris] at k6
    simp (disch := omega) only [RK_seq, RK_region0, RK_block, RK_cond, RK_skip, RK_ret, RK_exit, RE_seq, RE_seq_exit, RE_seq_ret, RE_block, RE_block_ret, RE_block_exit, RE_nil, RO_mv, RO_len, RO_bin, RO_binb, RO_un, RO_pick, RO_ixs, RO_fld, RO_part, RO_ixa, RO_ixv, RO_eqa, RO_eqn, RO_mx2, RO_mn2, RO_build2, RO_lit0, RO_lit1, RO_lit2, RO_mkfn0, RO_mkfn1, RO_cap, RO_slice_l, RO_slice_h, RO_slice_lh, RO_box, RO_alloc, RO_store, RO_clear, RO_callv0, RO_callv1, RO_callv2, RO_append, RO_load, RO_callf0, RO_callf1, RO_callf2, RO_callf3, RO_callf4, RO_guard, RO_nil, put_fr, opd_t, opd_c, upd_eq', upd_ne, ne_eq, ↓OM_some, ↓OM_none, ↓CM_bool, ↓CB_true, ↓CB_false, ↓GM_t, ↓GM_f, ↓GM_tup, OM_some, OM_none, CM_bool, CB_true, CB_false, GM_t, GM_f, GM_tup, reduceIte, reduceCtorEq, Nat.reduceLT, Nat.reduceEqDiff, not_false_eq_true, not_true_eq_false, bin_add, bin_sub, bin_mul, bin_eql, bin_neq, bin_lss, bin_leq, bin_gtr, bin_geq, bin_seql, bin_sneq, binb_eql, binb_neq, un_not, un_neg, pick_t, pick_f, mn_2, mx_2, len_nils, len_fs, len_row, eqa_2, bld2_int, lit2_int, decide_true, decide_false, Bool.not_true, Bool.not_false, Bool.false_eq_true, List.length_map, List.getD_cons_zero, List.getD_cons_succ, List.getD_nil, c3_r0, c3_r1, sv.len, sw.len, su.len, hml, hmb, hmt, RO_lit3, lit3_int, c5]
    simp (disch := omega) only [RK_seq, RK_region0, RK_block, RK_cond, RK_skip, RK_ret, RK_exit, RE_seq, RE_seq_exit, RE_seq_ret, RE_block, RE_block_ret, RE_block_exit, RE_nil, RO_mv, RO_len, RO_bin, RO_binb, RO_un, RO_pick, RO_ixs, RO_fld, RO_part, RO_ixa, RO_ixv, RO_eqa, RO_eqn, RO_mx2, RO_mn2, RO_build2, RO_lit0, RO_lit1, RO_lit2, RO_mkfn0, RO_mkfn1, RO_cap, RO_slice_l, RO_slice_h, RO_slice_lh, RO_box, RO_alloc, RO_store, RO_clear, RO_callv0, RO_callv1, RO_callv2, RO_append, RO_load, RO_callf0, RO_callf1, RO_callf2, RO_callf3, RO_callf4, RO_guard, RO_nil, put_fr, opd_t, opd_c, upd_eq', upd_ne, ne_eq, ↓OM_some, ↓OM_none, ↓CM_bool, ↓CB_true, ↓CB_false, ↓GM_t, ↓GM_f, ↓GM_tup, OM_some, OM_none, CM_bool, CB_true, CB_false, GM_t, GM_f, GM_tup, reduceIte, reduceCtorEq, Nat.reduceLT, Nat.reduceEqDiff, not_false_eq_true, not_true_eq_false, bin_add, bin_sub, bin_mul, bin_eql, bin_neq, bin_lss, bin_leq, bin_gtr, bin_geq, bin_seql, bin_sneq, binb_eql, binb_neq, un_not, un_neg, pick_t, pick_f, mn_2, mx_2, len_nils, len_fs, len_row, eqa_2, bld2_int, lit2_int, decide_true, decide_false, Bool.not_true, Bool.not_false, Bool.false_eq_true, List.length_map, List.getD_cons_zero, List.getD_cons_succ, List.getD_nil, c3_r3, a1, c3_r4, b1, c3_r5, l1, u1, c1, w1, r1, p1]
    simp (disch := omega) only [RK_seq, RK_region0, RK_block, RK_cond, RK_skip, RK_ret, RK_exit, RE_seq, RE_seq_exit, RE_seq_ret, RE_block, RE_block_ret, RE_block_exit, RE_nil, RO_mv, RO_len, RO_bin, RO_binb, RO_un, RO_pick, RO_ixs, RO_fld, RO_part, RO_ixa, RO_ixv, RO_eqa, RO_eqn, RO_mx2, RO_mn2, RO_build2, RO_lit0, RO_lit1, RO_lit2, RO_mkfn0, RO_mkfn1, RO_cap, RO_slice_l, RO_slice_h, RO_slice_lh, RO_box, RO_alloc, RO_store, RO_clear, RO_callv0, RO_callv1, RO_callv2, RO_append, RO_load, RO_callf0, RO_callf1, RO_callf2, RO_callf3, RO_callf4, RO_guard, RO_nil, put_fr, opd_t, opd_c, upd_eq', upd_ne, ne_eq, ↓OM_some, ↓OM_none, ↓CM_bool, ↓CB_true, ↓CB_false, ↓GM_t, ↓GM_f, ↓GM_tup, OM_some, OM_none, CM_bool, CB_true, CB_false, GM_t, GM_f, GM_tup, reduceIte, reduceCtorEq, Nat.reduceLT, Nat.reduceEqDiff, not_false_eq_true, not_true_eq_false, bin_add, bin_sub, bin_mul, bin_eql, bin_neq, bin_lss, bin_leq, bin_gtr, bin_geq, bin_seql, bin_sneq, binb_eql, binb_neq, un_not, un_neg, pick_t, pick_f, mn_2, mx_2, len_nils, len_fs, len_row, eqa_2, bld2_int, lit2_int, decide_true, decide_false, Bool.not_true, Bool.not_false, Bool.false_eq_true, List.length_map, List.getD_cons_zero, List.getD_cons_succ, List.getD_nil, c3_r6, k1, k2, k3, k4, k5, k6, c3_r8, e1, c3_r9]
    refine f3_l0 L _ _ (by simp [upd']) (by simp [upd']) (by simp [upd']) (by simp [upd']) (by simp [upd']) (by simp [upd']) (by simp [upd']) (by simp [upd']) (by simp [upd']) (by simp [upd']) (fun f' g => ?_) _ (fun _ _ => rfl) 0 (Nat.zero_le _) (by simp [upd'])
    have g0 := g 0 (by omega)
    have g2 := g 2 (by omega)
    have g7 := g 7 (by omega)
    have g8 := g 8 (by omega)
    have g9 := g 9 (by omega)
    simp [upd'] at g0 g2 g7 g8 g9
    clear g
    simp (disch := omega) only [RK_seq, RK_region0, RK_block, RK_cond, RK_skip, RK_ret, RK_exit, RE_seq, RE_seq_exit, RE_seq_ret, RE_block, RE_block_ret, RE_block_exit, RE_nil, RO_mv, RO_len, RO_bin, RO_binb, RO_un, RO_pick, RO_ixs, RO_fld, RO_part, RO_ixa, RO_ixv, RO_eqa, RO_eqn, RO_mx2, RO_mn2, RO_build2, RO_lit0, RO_lit1, RO_lit2, RO_mkfn0, RO_mkfn1, RO_cap, RO_slice_l, RO_slice_h, RO_slice_lh, RO_box, RO_alloc, RO_store, RO_clear, RO_callv0, RO_callv1, RO_callv2, RO_append, RO_load, RO_callf0, RO_callf1, RO_callf2, RO_callf3, RO_callf4, RO_guard, RO_nil, put_fr, opd_t, opd_c, upd_eq', upd_ne, ne_eq, ↓OM_some, ↓OM_none, ↓CM_bool, ↓CB_true, ↓CB_false, ↓GM_t, ↓GM_f, ↓GM_tup, OM_some, OM_none, CM_bool, CB_true, CB_false, GM_t, GM_f, GM_tup, reduceIte, reduceCtorEq, Nat.reduceLT, Nat.reduceEqDiff, not_false_eq_true, not_true_eq_false, bin_add, bin_sub, bin_mul, bin_eql, bin_neq, bin_lss, bin_leq, bin_gtr, bin_geq, bin_seql, bin_sneq, binb_eql, binb_neq, un_not, un_neg, pick_t, pick_f, mn_2, mx_2, len_nils, len_fs, len_row, eqa_2, bld2_int, lit2_int, decide_true, decide_false, Bool.not_true, Bool.not_false, Bool.false_eq_true, List.length_map, List.getD_cons_zero, List.getD_cons_succ, List.getD_nil, c3_r22, c3_r23]
    refine f3_l2 L _ _ (by simp [upd', g0]) (by simp [upd', g9]) (fun f2 g gn => ?_) _ (fun _ _ => rfl) 0 (Nat.zero_le _) (by simp [upd']) (by simp [upd'])
    have g0 := (g 0 (by omega)).trans g0
    have g2 := (g 2 (by omega)).trans g2
    have g7 := (g 7 (by omega)).trans g7
    have g8 := (g 8 (by omega)).trans g8
    have g9 := (g 9 (by omega)).trans g9
    clear g
    simp (disch := omega) only [RK_seq, RK_region0, RK_block, RK_cond, RK_skip, RK_ret, RK_exit, RE_seq, RE_seq_exit, RE_seq_ret, RE_block, RE_block_ret, RE_block_exit, RE_nil, RO_mv, RO_len, RO_bin, RO_binb, RO_un, RO_pick, RO_ixs, RO_fld, RO_part, RO_ixa, RO_ixv, RO_eqa, RO_eqn, RO_mx2, RO_mn2, RO_build2, RO_lit0, RO_lit1, RO_lit2, RO_mkfn0, RO_mkfn1, RO_cap, RO_slice_l, RO_slice_h, RO_slice_lh, RO_box, RO_alloc, RO_store, RO_clear, RO_callv0, RO_callv1, RO_callv2, RO_append, RO_load, RO_callf0, RO_callf1, RO_callf2, RO_callf3, RO_callf4, RO_guard, RO_nil, put_fr, opd_t, opd_c, upd_eq', upd_ne, ne_eq, ↓OM_some, ↓OM_none, ↓CM_bool, ↓CB_true, ↓CB_false, ↓GM_t, ↓GM_f, ↓GM_tup, OM_some, OM_none, CM_bool, CB_true, CB_false, GM_t, GM_f, GM_tup, reduceIte, reduceCtorEq, Nat.reduceLT, Nat.reduceEqDiff, not_false_eq_true, not_true_eq_false, bin_add, bin_sub, bin_mul, bin_eql, bin_neq, bin_lss, bin_leq, bin_gtr, bin_geq, bin_seql, bin_sneq, binb_eql, binb_neq, un_not, un_neg, pick_t, pick_f, mn_2, mx_2, len_nils, len_fs, len_row, eqa_2, bld2_int, lit2_int, decide_true, decide_false, Bool.not_true, Bool.not_false, Bool.false_eq_true, List.length_map, List.getD_cons_zero, List.getD_cons_succ, List.getD_nil, c3_r28]
    refine f3_l3 L _ _ (by simp [upd', g0]) (by simp [upd', g7]) (fun f3 g => ?_) _ (fun _ _ => rfl) 0 (Nat.zero_le _) (by simp [upd'])
    have g0 := (g 0 (by omega)).trans g0
    have g2 := (g 2 (by omega)).trans g2
    have g8 := (g 8 (by omega)).trans g8
    have g9 := (g 9 (by omega)).trans g9
    have gn := (g 21 (by omega)).trans gn
    clear g
    simp (disch := omega) only [RK_seq, RK_region0, RK_block, RK_cond, RK_skip, RK_ret, RK_exit, RE_seq, RE_seq_exit, RE_seq_ret, RE_block, RE_block_ret, RE_block_exit, RE_nil, RO_mv, RO_len, RO_bin, RO_binb, RO_un, RO_pick, RO_ixs, RO_fld, RO_part, RO_ixa, RO_ixv, RO_eqa, RO_eqn, RO_mx2, RO_mn2, RO_build2, RO_lit0, RO_lit1, RO_lit2, RO_mkfn0, RO_mkfn1, RO_cap, RO_slice_l, RO_slice_h, RO_slice_lh, RO_box, RO_alloc, RO_store, RO_clear, RO_callv0, RO_callv1, RO_callv2, RO_append, RO_load, RO_callf0, RO_callf1, RO_callf2, RO_callf3, RO_callf4, RO_guard, RO_nil, put_fr, opd_t, opd_c, upd_eq', upd_ne, ne_eq, ↓OM_some, ↓OM_none, ↓CM_bool, ↓CB_true, ↓CB_false, ↓GM_t, ↓GM_f, ↓GM_tup, OM_some, OM_none, CM_bool, CB_true, CB_false, GM_t, GM_f, GM_tup, reduceIte, reduceCtorEq, Nat.reduceLT, Nat.reduceEqDiff, not_false_eq_true, not_true_eq_false, bin_add, bin_sub, bin_mul, bin_eql, bin_neq, bin_lss, bin_leq, bin_gtr, bin_geq, bin_seql, bin_sneq, binb_eql, binb_neq, un_not, un_neg, pick_t, pick_f, mn_2, mx_2, len_nils, len_fs, len_row, eqa_2, bld2_int, lit2_int, decide_true, decide_false, Bool.not_true, Bool.not_false, Bool.false_eq_true, List.length_map, List.getD_cons_zero, List.getD_cons_succ, List.getD_nil, c3_r33]
    refine f3_l4 L _ _ (by simp [upd', g2]) (by simp [upd', g8]) (fun f4 g => ?_) _ (fun _ _ => rfl) 0 (Nat.zero_le _) (by simp [upd'])
    have g9 := (g 9 (by omega)).trans g9
    have gn := (g 21 (by omega)).trans gn
    have hm := List.length_map (as := ofL la) encP
    simp (disch := omega) only [RK_seq, RK_region0, RK_block, RK_cond, RK_skip, RK_ret, RK_exit, RE_seq, RE_seq_exit, RE_seq_ret, RE_block, RE_block_ret, RE_block_exit, RE_nil, RO_mv, RO_len, RO_bin, RO_binb, RO_un, RO_pick, RO_ixs, RO_fld, RO_part, RO_ixa, RO_ixv, RO_eqa, RO_eqn, RO_mx2, RO_mn2, RO_build2, RO_lit0, RO_lit1, RO_lit2, RO_mkfn0, RO_mkfn1, RO_cap, RO_slice_l, RO_slice_h, RO_slice_lh, RO_box, RO_alloc, RO_store, RO_clear, RO_callv0, RO_callv1, RO_callv2, RO_append, RO_load, RO_callf0, RO_callf1, RO_callf2, RO_callf3, RO_callf4, RO_guard, RO_nil, put_fr, opd_t, opd_c, upd_eq', upd_ne, ne_eq, ↓OM_some, ↓OM_none, ↓CM_bool, ↓CB_true, ↓CB_false, ↓GM_t, ↓GM_f, ↓GM_tup, OM_some, OM_none, CM_bool, CB_true, CB_false, GM_t, GM_f, GM_tup, reduceIte, reduceCtorEq, Nat.reduceLT, Nat.reduceEqDiff, not_false_eq_true, not_true_eq_false, bin_add, bin_sub, bin_mul, bin_eql, bin_neq, bin_lss, bin_leq, bin_gtr, bin_geq, bin_seql, bin_sneq, binb_eql, binb_neq, un_not, un_neg, pick_t, pick_f, mn_2, mx_2, len_nils, len_fs, len_row, eqa_2, bld2_int, lit2_int, decide_true, decide_false, Bool.not_true, Bool.not_false, Bool.false_eq_true, List.length_map, List.getD_cons_zero, List.getD_cons_succ, List.getD_nil, c3_r38, g9, gn, L.sl.len, hm, eq_self, f6_spec (cx := ⟨H.length, none⟩) (H := rp.2) L.nN, FinQ_ret, res_t]
end Go.Proofs.Tryt17A
end

section
namespace Go.Proofs.Tryt17A
open Go Go.AM
set_option linter.unusedSimpArgs false
set_option linter.unusedVariables false
variable {cx : Ctx} {H : Heap}

theorem Hd.al {z : Nat} {h : Heap} {v : AV} {es : List (List AV)} (hd : Hd z h v es) (hz : ∀ e ∈ es, e.length = z) : Al z h v es := by
  refine ⟨?_, fun h' h1 h2 => (hd.keep ⟨h1, h2⟩).sl hz⟩
  rcases hd with ⟨rfl, rfl⟩ | ⟨x, rfl⟩ | ⟨i, rfl, h2⟩ <;> exact ⟨rfl, rfl⟩

/-- One place cut out. -/
theorem Hd.cut1 {h : Heap} {v : AV} {l : List Int} (hd : Hd 1 h v (l.map encI)) {k : Nat} (hk : k < l.length) : ∃ w, slcM 1 v (some (.int .i64 k)) (some (.int .i64 ((k : Int) + 1))) none = some w ∧ Sl 1 h w ([l[k]].map encI) := by
  have e1 : (0 : Int) ≤ (k : Int) := by omega
  have e2 : (0 : Int) ≤ (k : Int) + 1 := by omega
  have e3 : ((k : Int) + 1).toNat = k + 1 := by omega
  have hm := List.length_map (as := l) encI
  rcases hd with ⟨rfl, h0⟩ | ⟨x, rfl⟩ | ⟨i, rfl, h2⟩
  · have : l = [] := by simpa using h0
    subst this; simp at hk
  · have ha : (l.map encI).all (fun e => e.length == 1) = true := by rw [List.all_eq_true]; intro e he; simp [lensI l e he]
    have et : ((l.map encI).take (k + 1)).drop k = [l[k]].map encI := by
      rw [← List.map_take, ← List.map_drop, List.take_succ_eq_append_getElem hk, List.drop_append_of_le_length (by simp; omega), List.drop_take]
      simp
    refine ⟨.fs ([l[k]].map encI) (x && decide (k + 1 = l.length)), ?_, .fs (lensI _)⟩
    simp only [slcM, cut, optNat, asNat, e1, e2, e3, if_true, Option.bind_eq_bind, Option.bind_some, Int.toNat_natCast, ha, hm]
    rw [if_pos ⟨by omega, by omega, trivial⟩, et]
  · refine ⟨.row i 0 k 1 (l.length - k) 1, ?_, ?_⟩
    · simp only [slcM, cut, optNat, asNat, e1, e2, e3, if_true, Option.bind_eq_bind, Option.bind_some, Int.toNat_natCast, hm]
      simp
      omega
    · refine Sl.row (es := [l[k]].map encI) (all := l.map encI) (by simp [rdRow, h2]) (by simp; omega) (fun j hj => ?_)
      have : j = 0 := by simpa using hj
      subst this
      simp [hk]

/-- What the second law holds, when its loops go. -/
structure L4 (N : Nat) (h : Heap) (la lb : List (Int × Int)) (to more : List Int) (r s t : AV) : Prop where
  sr : Sl 1 h r ((rlL la to).map encI)
  ss : Sl 1 h s ((rlL (ofL (la ++ lb)) to).map encI)
  st : Sl 1 h t ((rlL la (to ++ more)).map encI)
  nN : N ≤ h.length
  nr : (rlL la to).length < 4611686018427387904
  ns : (rlL (ofL (la ++ lb)) to).length < 4611686018427387904
  nt : (rlL la (to ++ more)).length < 4611686018427387904
section
variable {N : Nat} {h : Heap} {la lb : List (Int × Int)} {to more : List Int} {r s t : AV} (L : L4 N h la lb to more r s t)
include L
theorem f4_l0 (Q : Ex → St → Prop) (f0 : Nat → AV) (g12 : f0 12 = r) (g13 : f0 13 = s) (g14 : f0 14 = t)
    (q0 : ∀ f', (∀ n, n < 15 → f' n = f0 n) → Q (.exit 0) ⟨mkfr 159 f', [], h⟩)
    (f : Nat → AV) (hf : ∀ n, n < 15 → f n = f0 n) (k : Nat) (hk : k ≤ (rlL la to).length) (h15 : f 15 = .int .i64 k) :
    R (T prim23 prim36) ⟨N, none⟩ c4_l0 ⟨mkfr 159 f, [], h⟩ Q := by
  have f12 := (hf 12 (by omega)).trans g12
  have f13 := (hf 13 (by omega)).trans g13
  have f14 := (hf 14 (by omega)).trans g14
  have hm := List.length_map (as := rlL la to) encI
  rw [c4_l0, R_loop, ← c4_l0, c4_lb0]
  by_cases hlt : k < (rlL la to).length
  · have e1 : ((k : Int) < ((rlL la to).length : Int)) = True := by simp; omega
    have hlm : k < ((rlL la to).map encI).length := by simpa using hlt
    have hr := L.nr
    have next : ∀ f' : Nat → AV, (∀ n, n < 15 → f' n = f0 n) → f' 15 = .int .i64 ((k : Int) + 1) → R (T prim23 prim36) ⟨N, none⟩ c4_l0 ⟨mkfr 159 f', [], h⟩ Q := fun f' g g15 =>
      f4_l0 Q f0 g12 g13 g14 q0 f' g (k + 1) hlt (by rw [g15]; rfl)
    generalize hy : (rlL la to)[k] = x
    have hx : x ∈ rlL la to := by rw [← hy]; exact List.getElem_mem _
    have ey : partOf false 0 1 (((rlL la to).map encI).getD k []) = some (.int .i64 x) := by rw [encI_get _ k hlt, hy]; rfl
    have lx := L.sr.ld hlm (k := .i64) (ag := false) (n := 1)
    rw [ey] at lx
    have c1 := f16_spec (p23 := prim23) (p36 := prim36) (cx := ⟨N, none⟩) _ x s L.ss L.ns L.nN
    have c2 := f16_spec (p23 := prim23) (p36 := prim36) (cx := ⟨N, none⟩) _ x t L.st L.nt L.nN
    rw [rl_mono (a := la) (u := ofL (la ++ lb)) (to := to) (both := to) (fun x y hh => by rw [hasB_un, hh]; rfl) (fun _ hx => hx) x hx] at c1
    rw [rl_mono (a := la) (u := la) (to := to) (both := to ++ more) (fun x y hh => hh) (fun _ hx => List.mem_append_left _ hx) x hx] at c2
    simp (disch := omega) only [RK_seq, RK_region0, RK_block, RK_cond, RK_skip, RK_ret, RK_exit, RE_seq, RE_seq_exit, RE_seq_ret, RE_block, RE_block_ret, RE_block_exit, RE_nil, RO_mv, RO_len, RO_bin, RO_binb, RO_un, RO_pick, RO_ixs, RO_fld, RO_part, RO_ixa, RO_ixv, RO_eqa, RO_eqn, RO_mx2, RO_mn2, RO_build2, RO_lit0, RO_lit1, RO_lit2, RO_mkfn0, RO_mkfn1, RO_cap, RO_slice_l, RO_slice_h, RO_slice_lh, RO_box, RO_alloc, RO_store, RO_clear, RO_callv0, RO_callv1, RO_callv2, RO_append, RO_load, RO_callf0, RO_callf1, RO_callf2, RO_callf3, RO_callf4, RO_guard, RO_nil, put_fr, opd_t, opd_c, upd_eq', upd_ne, ne_eq, ↓OM_some, ↓OM_none, ↓CM_bool, ↓CB_true, ↓CB_false, ↓GM_t, ↓GM_f, ↓GM_tup, OM_some, OM_none, CM_bool, CB_true, CB_false, GM_t, GM_f, GM_tup, reduceIte, reduceCtorEq, Nat.reduceLT, Nat.reduceEqDiff, not_false_eq_true, not_true_eq_false, bin_add, bin_sub, bin_mul, bin_eql, bin_neq, bin_lss, bin_leq, bin_gtr, bin_geq, bin_seql, bin_sneq, binb_eql, binb_neq, un_not, un_neg, pick_t, pick_f, mn_2, mx_2, len_nils, len_fs, len_row, eqa_2, bld2_int, lit2_int, decide_true, decide_false, Bool.not_true, Bool.not_false, Bool.false_eq_true, List.length_map, List.getD_cons_zero, List.getD_cons_succ, List.getD_nil, c4_r10, f12, h15, L.sr.len, e1, c4_r11, f13, f14, L.sr.ixs hlm, lx, c1, c2, c4_r13, wrap64]
    refine next _ (fun n hn => ?_) (by simp [upd'])
    simp (disch := omega) only [upd_ne]
    exact hf n hn
  · have : k = (rlL la to).length := by omega
    subst this
    simp (disch := omega) only [RK_seq, RK_region0, RK_block, RK_cond, RK_skip, RK_ret, RK_exit, RE_seq, RE_seq_exit, RE_seq_ret, RE_block, RE_block_ret, RE_block_exit, RE_nil, RO_mv, RO_len, RO_bin, RO_binb, RO_un, RO_pick, RO_ixs, RO_fld, RO_part, RO_ixa, RO_ixv, RO_eqa, RO_eqn, RO_mx2, RO_mn2, RO_build2, RO_lit0, RO_lit1, RO_lit2, RO_mkfn0, RO_mkfn1, RO_cap, RO_slice_l, RO_slice_h, RO_slice_lh, RO_box, RO_alloc, RO_store, RO_clear, RO_callv0, RO_callv1, RO_callv2, RO_append, RO_load, RO_callf0, RO_callf1, RO_callf2, RO_callf3, RO_callf4, RO_guard, RO_nil, put_fr, opd_t, opd_c, upd_eq', upd_ne, ne_eq, ↓OM_some, ↓OM_none, ↓CM_bool, ↓CB_true, ↓CB_false, ↓GM_t, ↓GM_f, ↓GM_tup, OM_some, OM_none, CM_bool, CB_true, CB_false, GM_t, GM_f, GM_tup, reduceIte, reduceCtorEq, Nat.reduceLT, Nat.reduceEqDiff, not_false_eq_true, not_true_eq_false, bin_add, bin_sub, bin_mul, bin_eql, bin_neq, bin_lss, bin_leq, bin_gtr, bin_geq, bin_seql, bin_sneq, binb_eql, binb_neq, un_not, un_neg, pick_t, pick_f, mn_2, mx_2, len_nils, len_fs, len_row, eqa_2, bld2_int, lit2_int, decide_true, decide_false, Bool.not_true, Bool.not_false, Bool.false_eq_true, List.length_map, List.getD_cons_zero, List.getD_cons_succ, List.getD_nil, c4_r10, f12, h15, L.sr.len, hm, Int.lt_irrefl]
    refine q0 _ (fun n hn => ?_)
    simp (disch := omega) only [upd_ne]
    exact hf n hn
termination_by (rlL la to).length - k
end

structure P4 (N : Nat) (h : Heap) (la : List (Int × Int)) (to : List Int) (c w p : AV) : Prop where
  fc : Fz c ((clL la to).map encP)
  fw : Fz w ((woL (clL la to) to).map encP)
  dp : Hd 1 h p ((plL to).map encI)
  nN : N ≤ h.length
  nc : (clL la to).length ≤ 5000
  nw : (woL (clL la to) to).length ≤ 5000
  np : (plL to).length < 4611686018427387904
section
variable {N : Nat} {h : Heap} {la : List (Int × Int)} {to : List Int} {c w p : AV} (L : P4 N h la to c w p)
include L
theorem P4.sp : Sl 1 h p ((plL to).map encI) := L.dp.sl (lensI _)
theorem f4_l2 {x : Int} (hx : x ∈ plL to) {near : AV} (hn : Sl 1 h near ((rlL (clL la to) [x]).map encI)) (nn : (rlL (clL la to) [x]).length < 4611686018427387904) (Q : Ex → St → Prop) (f0 : Nat → AV) (g16 : f0 16 = p) (g19 : f0 19 = near)
    (q0 : ∀ f', (∀ n, n < 20 → f' n = f0 n) → Q (.exit 4) ⟨mkfr 159 f', [], h⟩)
    (f : Nat → AV) (hf : ∀ n, n < 20 → f n = f0 n) (k : Nat) (hk : k ≤ (plL to).length) (h20 : f 20 = .int .i64 k) :
    R (T prim23 prim36) ⟨N, none⟩ c4_l2 ⟨mkfr 159 f, [], h⟩ Q := by
  have f16 := (hf 16 (by omega)).trans g16
  have f19 := (hf 19 (by omega)).trans g19
  have hm := List.length_map (as := plL to) encI
  rw [c4_l2, R_loop, ← c4_l2, c4_lb2]
  by_cases hlt : k < (plL to).length
  · have e1 : ((k : Int) < ((plL to).length : Int)) = True := by simp; omega
    have hlm : k < ((plL to).map encI).length := by simpa using hlt
    have hr := L.np
    have next : ∀ f' : Nat → AV, (∀ n, n < 20 → f' n = f0 n) → f' 20 = .int .i64 ((k : Int) + 1) → R (T prim23 prim36) ⟨N, none⟩ c4_l2 ⟨mkfr 159 f', [], h⟩ Q := fun f' g g20 =>
      f4_l2 hx hn nn Q f0 g16 g19 q0 f' g (k + 1) hlt (by rw [g20]; rfl)
    generalize hy : (plL to)[k] = y
    have hym : y ∈ plL to := by rw [← hy]; exact List.getElem_mem _
    have ey : partOf false 0 1 (((plL to).map encI).getD k []) = some (.int .i64 y) := by rw [encI_get _ k hlt, hy]; rfl
    have lx := L.sp.ld hlm (k := .i64) (ag := false) (n := 1)
    rw [ey] at lx
    have c1 := f16_spec (p23 := prim23) (p36 := prim36) (cx := ⟨N, none⟩) _ y near hn nn L.nN
    rw [rl_cl la to x y hx hym] at c1
    simp (disch := omega) only [RK_seq, RK_region0, RK_block, RK_cond, RK_skip, RK_ret, RK_exit, RE_seq, RE_seq_exit, RE_seq_ret, RE_block, RE_block_ret, RE_block_exit, RE_nil, RO_mv, RO_len, RO_bin, RO_binb, RO_un, RO_pick, RO_ixs, RO_fld, RO_part, RO_ixa, RO_ixv, RO_eqa, RO_eqn, RO_mx2, RO_mn2, RO_build2, RO_lit0, RO_lit1, RO_lit2, RO_mkfn0, RO_mkfn1, RO_cap, RO_slice_l, RO_slice_h, RO_slice_lh, RO_box, RO_alloc, RO_store, RO_clear, RO_callv0, RO_callv1, RO_callv2, RO_append, RO_load, RO_callf0, RO_callf1, RO_callf2, RO_callf3, RO_callf4, RO_guard, RO_nil, put_fr, opd_t, opd_c, upd_eq', upd_ne, ne_eq, ↓OM_some, ↓OM_none, ↓CM_bool, ↓CB_true, ↓CB_false, ↓GM_t, ↓GM_f, ↓GM_tup, OM_some, OM_none, CM_bool, CB_true, CB_false, GM_t, GM_f, GM_tup, reduceIte, reduceCtorEq, Nat.reduceLT, Nat.reduceEqDiff, not_false_eq_true, not_true_eq_false, bin_add, bin_sub, bin_mul, bin_eql, bin_neq, bin_lss, bin_leq, bin_gtr, bin_geq, bin_seql, bin_sneq, binb_eql, binb_neq, un_not, un_neg, pick_t, pick_f, mn_2, mx_2, len_nils, len_fs, len_row, eqa_2, bld2_int, lit2_int, decide_true, decide_false, Bool.not_true, Bool.not_false, Bool.false_eq_true, List.length_map, List.getD_cons_zero, List.getD_cons_succ, List.getD_nil, c4_r20, f16, h20, L.sp.len, e1, c4_r21, f19, L.sp.ixs hlm, lx, c1, c4_r23, wrap64]
    refine next _ (fun n hn => ?_) (by simp [upd'])
    simp (disch := omega) only [upd_ne]
    exact hf n hn
  · have : k = (plL to).length := by omega
    subst this
    simp (disch := omega) only [RK_seq, RK_region0, RK_block, RK_cond, RK_skip, RK_ret, RK_exit, RE_seq, RE_seq_exit, RE_seq_ret, RE_block, RE_block_ret, RE_block_exit, RE_nil, RO_mv, RO_len, RO_bin, RO_binb, RO_un, RO_pick, RO_ixs, RO_fld, RO_part, RO_ixa, RO_ixv, RO_eqa, RO_eqn, RO_mx2, RO_mn2, RO_build2, RO_lit0, RO_lit1, RO_lit2, RO_mkfn0, RO_mkfn1, RO_cap, RO_slice_l, RO_slice_h, RO_slice_lh, RO_box, RO_alloc, RO_store, RO_clear, RO_callv0, RO_callv1, RO_callv2, RO_append, RO_load, RO_callf0, RO_callf1, RO_callf2, RO_callf3, RO_callf4, RO_guard, RO_nil, put_fr, opd_t, opd_c, upd_eq', upd_ne, ne_eq, ↓OM_some, ↓OM_none, ↓CM_bool, ↓CB_true, ↓CB_false, ↓GM_t, ↓GM_f, ↓GM_tup, OM_some, OM_none, CM_bool, CB_true, CB_false, GM_t, GM_f, GM_tup, reduceIte, reduceCtorEq, Nat.reduceLT, Nat.reduceEqDiff, not_false_eq_true, not_true_eq_false, bin_add, bin_sub, bin_mul, bin_eql, bin_neq, bin_lss, bin_leq, bin_gtr, bin_geq, bin_seql, bin_sneq, binb_eql, binb_neq, un_not, un_neg, pick_t, pick_f, mn_2, mx_2, len_nils, len_fs, len_row, eqa_2, bld2_int, lit2_int, decide_true, decide_false, Bool.not_true, Bool.not_false, Bool.false_eq_true, List.length_map, List.getD_cons_zero, List.getD_cons_succ, List.getD_nil, c4_r20, f16, h20, L.sp.len, hm, Int.lt_irrefl]
    refine q0 _ (fun n hn => ?_)
    simp (disch := omega) only [upd_ne]
    exact hf n hn
termination_by (plL to).length - k

theorem f4_l1 (Q : Ex → St → Prop) (f0 : Nat → AV) (g10 : f0 10 = c) (g16 : f0 16 = p) (g17 : f0 17 = w)
    (q0 : ∀ f', (∀ n, n < 18 → f' n = f0 n) → Q (.exit 2) ⟨mkfr 159 f', [], h⟩)
    (f : Nat → AV) (hf : ∀ n, n < 18 → f n = f0 n) (k : Nat) (hk : k ≤ (plL to).length) (h18 : f 18 = .int .i64 k) :
    R (T prim23 prim36) ⟨N, none⟩ c4_l1 ⟨mkfr 159 f, [], h⟩ Q := by
  have f10 := (hf 10 (by omega)).trans g10
  have f16 := (hf 16 (by omega)).trans g16
  have f17 := (hf 17 (by omega)).trans g17
  have hm := List.length_map (as := plL to) encI
  rw [c4_l1, R_loop, ← c4_l1, c4_lb1]
  by_cases hlt : k < (plL to).length
  · have e1 : ((k : Int) < ((plL to).length : Int)) = True := by simp; omega
    have hr := L.np
    have next : ∀ f' : Nat → AV, (∀ n, n < 18 → f' n = f0 n) → f' 18 = .int .i64 ((k : Int) + 1) → R (T prim23 prim36) ⟨N, none⟩ c4_l1 ⟨mkfr 159 f', [], h⟩ Q := fun f' g g18 =>
      f4_l1 Q f0 g10 g16 g17 q0 f' g (k + 1) hlt (by rw [g18]; rfl)
    obtain ⟨cv, d1, d2⟩ := L.dp.cut1 hlt
    generalize hy : (plL to)[k] = x at d2
    have hx : x ∈ plL to := by rw [← hy]; exact List.getElem_mem _
    obtain ⟨near, n1, n2⟩ := f11_spec (cx := ⟨N, none⟩) (H := h) (to := [x]) L.fc d2 L.nc (by simp) L.nN
    obtain ⟨one, o1, o2⟩ := f11_spec (cx := ⟨N, none⟩) (H := h) (to := [x]) L.fw d2 L.nw (by simp) L.nN
    rw [rl_wo _ _ _ hx] at o2
    have ol : lenM one = some (.int .i64 1) := (o2.sl (lensI _) h).len
    have nl := rlL_len (clL la to) [x]
    have hnc := L.nc
    simp (disch := omega) only [RK_seq, RK_region0, RK_block, RK_cond, RK_skip, RK_ret, RK_exit, RE_seq, RE_seq_exit, RE_seq_ret, RE_block, RE_block_ret, RE_block_exit, RE_nil, RO_mv, RO_len, RO_bin, RO_binb, RO_un, RO_pick, RO_ixs, RO_fld, RO_part, RO_ixa, RO_ixv, RO_eqa, RO_eqn, RO_mx2, RO_mn2, RO_build2, RO_lit0, RO_lit1, RO_lit2, RO_mkfn0, RO_mkfn1, RO_cap, RO_slice_l, RO_slice_h, RO_slice_lh, RO_box, RO_alloc, RO_store, RO_clear, RO_callv0, RO_callv1, RO_callv2, RO_append, RO_load, RO_callf0, RO_callf1, RO_callf2, RO_callf3, RO_callf4, RO_guard, RO_nil, put_fr, opd_t, opd_c, upd_eq', upd_ne, ne_eq, ↓OM_some, ↓OM_none, ↓CM_bool, ↓CB_true, ↓CB_false, ↓GM_t, ↓GM_f, ↓GM_tup, OM_some, OM_none, CM_bool, CB_true, CB_false, GM_t, GM_f, GM_tup, reduceIte, reduceCtorEq, Nat.reduceLT, Nat.reduceEqDiff, not_false_eq_true, not_true_eq_false, bin_add, bin_sub, bin_mul, bin_eql, bin_neq, bin_lss, bin_leq, bin_gtr, bin_geq, bin_seql, bin_sneq, binb_eql, binb_neq, un_not, un_neg, pick_t, pick_f, mn_2, mx_2, len_nils, len_fs, len_row, eqa_2, bld2_int, lit2_int, decide_true, decide_false, Bool.not_true, Bool.not_false, Bool.false_eq_true, List.length_map, List.getD_cons_zero, List.getD_cons_succ, List.getD_nil, c4_r17, f16, h18, L.sp.len, e1, c4_r18, f10, d1, n1, c4_r19, wrap64]
    refine f4_l2 L hx (n2.sl (lensI _) h) (by simp at nl; omega) _ _ (by simp [upd', f16]) (by simp [upd']) (fun f' g => ?_) _ (fun _ _ => rfl) 0 (Nat.zero_le _) (by simp [upd'])
    have g16' := g 16 (by omega)
    have g17' := g 17 (by omega)
    have g18' := g 18 (by omega)
    simp [upd', f16, f17, h18] at g16' g17' g18'
    simp (disch := omega) only [RK_seq, RK_region0, RK_block, RK_cond, RK_skip, RK_ret, RK_exit, RE_seq, RE_seq_exit, RE_seq_ret, RE_block, RE_block_ret, RE_block_exit, RE_nil, RO_mv, RO_len, RO_bin, RO_binb, RO_un, RO_pick, RO_ixs, RO_fld, RO_part, RO_ixa, RO_ixv, RO_eqa, RO_eqn, RO_mx2, RO_mn2, RO_build2, RO_lit0, RO_lit1, RO_lit2, RO_mkfn0, RO_mkfn1, RO_cap, RO_slice_l, RO_slice_h, RO_slice_lh, RO_box, RO_alloc, RO_store, RO_clear, RO_callv0, RO_callv1, RO_callv2, RO_append, RO_load, RO_callf0, RO_callf1, RO_callf2, RO_callf3, RO_callf4, RO_guard, RO_nil, put_fr, opd_t, opd_c, upd_eq', upd_ne, ne_eq, ↓OM_some, ↓OM_none, ↓CM_bool, ↓CB_true, ↓CB_false, ↓GM_t, ↓GM_f, ↓GM_tup, OM_some, OM_none, CM_bool, CB_true, CB_false, GM_t, GM_f, GM_tup, reduceIte, reduceCtorEq, Nat.reduceLT, Nat.reduceEqDiff, not_false_eq_true, not_true_eq_false, bin_add, bin_sub, bin_mul, bin_eql, bin_neq, bin_lss, bin_leq, bin_gtr, bin_geq, bin_seql, bin_sneq, binb_eql, binb_neq, un_not, un_neg, pick_t, pick_f, mn_2, mx_2, len_nils, len_fs, len_row, eqa_2, bld2_int, lit2_int, decide_true, decide_false, Bool.not_true, Bool.not_false, Bool.false_eq_true, List.length_map, List.getD_cons_zero, List.getD_cons_succ, List.getD_nil, c4_r24, g16', g17', g18', d1, o1, ol, eq_self, c4_r26, wrap64]
    refine next _ (fun n hn => ?_) (by simp [upd'])
    have gn := g n (by omega)
    simp (disch := omega) only [upd_ne] at gn ⊢
    rw [gn]
    exact hf n hn
  · have : k = (plL to).length := by omega
    subst this
    simp (disch := omega) only [RK_seq, RK_region0, RK_block, RK_cond, RK_skip, RK_ret, RK_exit, RE_seq, RE_seq_exit, RE_seq_ret, RE_block, RE_block_ret, RE_block_exit, RE_nil, RO_mv, RO_len, RO_bin, RO_binb, RO_un, RO_pick, RO_ixs, RO_fld, RO_part, RO_ixa, RO_ixv, RO_eqa, RO_eqn, RO_mx2, RO_mn2, RO_build2, RO_lit0, RO_lit1, RO_lit2, RO_mkfn0, RO_mkfn1, RO_cap, RO_slice_l, RO_slice_h, RO_slice_lh, RO_box, RO_alloc, RO_store, RO_clear, RO_callv0, RO_callv1, RO_callv2, RO_append, RO_load, RO_callf0, RO_callf1, RO_callf2, RO_callf3, RO_callf4, RO_guard, RO_nil, put_fr, opd_t, opd_c, upd_eq', upd_ne, ne_eq, ↓OM_some, ↓OM_none, ↓CM_bool, ↓CB_true, ↓CB_false, ↓GM_t, ↓GM_f, ↓GM_tup, OM_some, OM_none, CM_bool, CB_true, CB_false, GM_t, GM_f, GM_tup, reduceIte, reduceCtorEq, Nat.reduceLT, Nat.reduceEqDiff, not_false_eq_true, not_true_eq_false, bin_add, bin_sub, bin_mul, bin_eql, bin_neq, bin_lss, bin_leq, bin_gtr, bin_geq, bin_seql, bin_sneq, binb_eql, binb_neq, un_not, un_neg, pick_t, pick_f, mn_2, mx_2, len_nils, len_fs, len_row, eqa_2, bld2_int, lit2_int, decide_true, decide_false, Bool.not_true, Bool.not_false, Bool.false_eq_true, List.length_map, List.getD_cons_zero, List.getD_cons_succ, List.getD_nil, c4_r17, f16, h18, L.sp.len, hm, Int.lt_irrefl]
    refine q0 _ (fun n hn => ?_)
    simp (disch := omega) only [upd_ne]
    exact hf n hn
termination_by (plL to).length - k
end
end Go.Proofs.Tryt17A
end

section
namespace Go.Proofs.Tryt17A
open Go Go.AM
set_option linter.unusedSimpArgs false
set_option linter.unusedVariables false
variable {cx : Ctx} {H : Heap}

theorem great4 {a b c d : Int} : greatB [a, b, c, d] = false → a ≤ 40 ∧ b ≤ 40 ∧ c ≤ 40 ∧ d ≤ 40 := by
  simp [greatB]

set_option maxHeartbeats 8000000 in
theorem f4_spec {la lb : List (Int × Int)} {to more : List Int} {v w u m : AV} (hv : Fz v (la.map encP)) (hb : Fz w (lb.map encP)) (hu : Fz u (to.map encI)) (hmo : Fz m (more.map encI)) (hw : cx.wp ≤ H.length) :
    callF (T prim23 prim36) (ev (T prim23 prim36)) cx 4 [v, w, u, m] H = some (.bool true, H) := by
  refine callF_code2 (a := a4) rfl rfl hw (Nat.le_of_ble_eq_true rfl) rfl ?_
  simp only [a4, c4]
  have sv := hv.sl (lensP _) H
  have sw := hb.sl (lensP _) H
  have su := hu.sl (lensI _) H
  have sm := hmo.sl (lensI _) H
  have hml := List.length_map (as := la) encP
  have hmb := List.length_map (as := lb) encP
  have hmt := List.length_map (as := to) encI
  have hmm := List.length_map (as := more) encI
  have c5 := f5_spec (p23 := prim23) (p36 := prim36) (cx := ⟨H.length, none⟩) (H := H) [(la.length : Int), lb.length, to.length, more.length] (.fs ([(la.length : Int), lb.length, to.length, more.length].map encI) true) (.fs (lensI _)) (by simp) (Nat.le_refl _)
  cases hg : greatB [(la.length : Int), lb.length, to.length, more.length] with
  | true =>
    rw [hg] at c5
    simp (disch := omega) only [RK_seq, RK_region0, RK_block, RK_cond, RK_skip, RK_ret, RK_exit, RE_seq, RE_seq_exit, RE_seq_ret, RE_block, RE_block_ret, RE_block_exit, RE_nil, RO_mv, RO_len, RO_bin, RO_binb, RO_un, RO_pick, RO_ixs, RO_fld, RO_part, RO_ixa, RO_ixv, RO_eqa, RO_eqn, RO_mx2, RO_mn2, RO_build2, RO_lit0, RO_lit1, RO_lit2, RO_mkfn0, RO_mkfn1, RO_cap, RO_slice_l, RO_slice_h, RO_slice_lh, RO_box, RO_alloc, RO_store, RO_clear, RO_callv0, RO_callv1, RO_callv2, RO_append, RO_load, RO_callf0, RO_callf1, RO_callf2, RO_callf3, RO_callf4, RO_guard, RO_nil, put_fr, opd_t, opd_c, upd_eq', upd_ne, ne_eq, ↓OM_some, ↓OM_none, ↓CM_bool, ↓CB_true, ↓CB_false, ↓GM_t, ↓GM_f, ↓GM_tup, OM_some, OM_none, CM_bool, CB_true, CB_false, GM_t, GM_f, GM_tup, reduceIte, reduceCtorEq, Nat.reduceLT, Nat.reduceEqDiff, not_false_eq_true, not_true_eq_false, bin_add, bin_sub, bin_mul, bin_eql, bin_neq, bin_lss, bin_leq, bin_gtr, bin_geq, bin_seql, bin_sneq, binb_eql, binb_neq, un_not, un_neg, pick_t, pick_f, mn_2, mx_2, len_nils, len_fs, len_row, eqa_2, bld2_int, lit2_int, decide_true, decide_false, Bool.not_true, Bool.not_false, Bool.false_eq_true, List.length_map, List.getD_cons_zero, List.getD_cons_succ, List.getD_nil, c4_r0, c4_r1, sv.len, sw.len, su.len, sm.len, hml, hmb, hmt, hmm, RO_lit4', lit4_int, c5, c4_r2, f6_spec (cx := ⟨H.length, none⟩) (H := H) (Nat.le_refl _), FinQ_ret, res_t]
  | false =>
    rw [hg] at c5
    have hgg := great4 hg
    have nla : la.length ≤ 40 := by omega
    have nlb : lb.length ≤ 40 := by omega
    have nto : to.length ≤ 40 := by omega
    have nmo : more.length ≤ 40 := by omega
    have fc : (clL la to).length ≤ 1700 := by have := clL_len (l := la) nto; omega
    have fu : (ofL (la ++ lb)).length ≤ 80 := by have := goodL_len' (la ++ lb); simp only [List.length_append] at this; omega
    have fo : (ofL la).length ≤ 40 := by have := goodL_len' la; omega
    obtain ⟨un, u1, u2⟩ := f8_spec (cx := ⟨H.length, none⟩) (H := H) (hv.al (lensP _)) (hb.al (lensP _)) (mxb (by omega)) (Nat.le_refl _)
    obtain ⟨c, c1, c2⟩ := f9_spec (cx := ⟨H.length, none⟩) (H := H) hv hu (by omega) nto (Nat.le_refl _)
    obtain ⟨ra, a1, a2⟩ := ap_hd (wp := H.length) (bytes := 8) su (mx8 (by omega)) (mx1 (by omega))
    have oa : OwE 1 H.length ra.2 ra.1 (to.map encI) := by
      rcases a2 with ⟨h1, h2 | h2, _⟩ | h2
      · exact .inl ⟨h2, h1⟩
      · exact .inr (.inl (by rw [h2, h1]))
      · refine .inr (.inr ⟨H.length, ?_⟩)
        rw [h2]
        exact Own3.ow (Nat.le_refl _) (lensI _)
    have ka := (Hd.own a2).2
    obtain ⟨all, h1, b1, b2, b3, b4⟩ := ap_any (bytes := 8) oa ka.1 (lensI _) (hmo.sl (lensI _) ra.2) (lensI _) (mx8 (by omega)) (mx1 (by omega))
    rw [← List.map_append] at b2
    have sall := OwE.sl b2 (lensI _)
    have n1 : H.length ≤ h1.length := Nat.le_trans ka.1 b3
    obtain ⟨r, r1, r2⟩ := f11_spec (cx := ⟨H.length, none⟩) (H := h1) hv (hu.sl (lensI _) _) (by omega) (by omega) n1
    obtain ⟨s, s1, s2⟩ := f11_spec (cx := ⟨H.length, none⟩) (H := h1) u2 (hu.sl (lensI _) _) (by omega) (by omega) n1
    obtain ⟨t, t1, t2⟩ := f11_spec (cx := ⟨H.length, none⟩) (H := h1) hv sall (by omega) (by simp; omega) n1
    -- the equalities
    obtain ⟨ba, x1, x2⟩ := f8_spec (cx := ⟨H.length, none⟩) (H := h1) (hb.al (lensP _)) (hv.al (lensP _)) (mxb (by omega)) n1
    have y1 := f20_spec (p23 := prim23) (p36 := prim36) (cx := ⟨H.length, none⟩) (H := h1) _ _ un ba (u2.sl (lensP _) _) (by omega) (x2.sl (lensP _) _) n1
    obtain ⟨ua, x3, x4⟩ := f8_spec (cx := ⟨H.length, none⟩) (H := h1) (u2.al (lensP _)) (hv.al (lensP _)) (mxb (by omega)) n1
    have y2 := f20_spec (p23 := prim23) (p36 := prim36) (cx := ⟨H.length, none⟩) (H := h1) _ _ ua un (x4.sl (lensP _) _) (by rw [un_idem]; omega) (u2.sl (lensP _) _) n1
    obtain ⟨cc, x5, x6⟩ := f9_spec (cx := ⟨H.length, none⟩) (H := h1) c2 hu (by omega) nto n1
    have y3 := f20_spec (p23 := prim23) (p36 := prim36) (cx := ⟨H.length, none⟩) (H := h1) _ _ cc c (x6.sl (lensP _) _) (by rw [cl_cl]; omega) (c2.sl (lensP _) _) n1
    obtain ⟨ou, x7, x8⟩ := f7_spec (cx := ⟨H.length, none⟩) (H := h1) (l := ofL (la ++ lb)) (v := un) u2.cells (fun h _ => u2.sl (lensP _) h) (mxb (by omega)) n1
    obtain ⟨d1, k1⟩ := Hd.own x8
    have y4 := f20_spec (p23 := prim23) (p36 := prim36) (cx := ⟨H.length, none⟩) (H := ou.2) _ _ ou.1 un (d1.sl (lensP _)) (by rw [of_of]; omega) (u2.sl (lensP _) _) (Nat.le_trans n1 k1.1)
    have n2 := Nat.le_trans n1 k1.1
    obtain ⟨oa1, x9, x10⟩ := f7_spec (cx := ⟨H.length, none⟩) (H := ou.2) (l := la) (v := v) hv.cells (fun h _ => hv.sl (lensP _) h) (mxb (by omega)) n2
    obtain ⟨d2, k2⟩ := Hd.own x10
    have n3 := Nat.le_trans n2 k2.1
    obtain ⟨on, x11, x12⟩ := f8_spec (cx := ⟨H.length, none⟩) (H := oa1.2) (lb := []) (b := .nils) (d2.al (lensP _)) (Fz.al (.inl ⟨rfl, rfl⟩) (by simp)) (mxb (by simp; omega)) n3
    obtain ⟨oa2, x13, x14⟩ := f7_spec (cx := ⟨H.length, none⟩) (H := oa1.2) (l := la) (v := v) hv.cells (fun h _ => hv.sl (lensP _) h) (mxb (by omega)) n3
    obtain ⟨d3, k3⟩ := Hd.own x14
    have n4 := Nat.le_trans n3 k3.1
    have e5 : ofL (ofL la ++ []) = ofL la := by rw [List.append_nil, of_of]
    have y5 := f20_spec (p23 := prim23) (p36 := prim36) (cx := ⟨H.length, none⟩) (H := oa2.2) _ _ on oa2.1 (x12.sl (lensP _) _) (by rw [e5]; omega) (d3.sl (lensP _)) n4
    rw [decide_eq_true (un_comm la lb)] at y1
    rw [decide_eq_true (un_idem la lb)] at y2
    rw [decide_eq_true (cl_cl la to)] at y3
    rw [decide_eq_true (of_of (la ++ lb))] at y4
    rw [decide_eq_true e5] at y5
    have L : L4 H.length oa2.2 la lb to more r s t := {
      sr := r2.sl (lensI _) _
      ss := s2.sl (lensI _) _
      st := t2.sl (lensI _) _
      nN := n4
      nr := by have := rlL_len la to; omega
      ns := by have := rlL_len (ofL (la ++ lb)) to; omega
      nt := by have := rlL_len la (to ++ more); simp only [List.length_append] at this; omega }
    obtain ⟨rp, p1, p2⟩ := f12_spec (cx := ⟨H.length, none⟩) (H := oa2.2) (hu.sl (lensI _) _) (mx8 (by omega)) n4
    obtain ⟨dp, kp⟩ := Hd.own p2
    have n5 := Nat.le_trans n4 kp.1
    obtain ⟨wo, w1, w2⟩ := f10_spec (cx := ⟨H.length, none⟩) (H := rp.2) c2 hu (mxb (by omega)) (by omega) n5
    have P : P4 H.length rp.2 la to c wo rp.1 := {
      fc := c2
      fw := w2
      dp := dp
      nN := n5
      nc := by omega
      nw := by have := woL_len (clL la to) to; omega
      np := by have := plL_len to; omega }
    obtain ⟨wa, w3, w4⟩ := f10_spec (cx := ⟨H.length, none⟩) (H := rp.2) hv hu (mxb (by omega)) (by omega) n5
    have y6 := f20_spec (p23 := prim23) (p36 := prim36) (cx := ⟨H.length, none⟩) (H := rp.2) _ _ wa wo (w4.sl (lensP _) _) (by have := woL_len la to; omega) (w2.sl (lensP _) _) n5
    rw [decide_eq_true (wo_cl la to)] at y6
    simp (disch := omega) only [RK_seq, RK_region0, RK_block, RK_cond, RK_skip, RK_ret, RK_exit, RE_seq, RE_seq_exit, RE_seq_ret, RE_block, RE_block_ret, RE_block_exit, RE_nil, RO_mv, RO_len, RO_bin, RO_binb, RO_un, RO_pick, RO_ixs, RO_fld, RO_part, RO_ixa, RO_ixv, RO_eqa, RO_eqn, RO_mx2, RO_mn2, RO_build2, RO_lit0, RO_lit1, RO_lit2, RO_mkfn0, RO_mkfn1, RO_cap, RO_slice_l, RO_slice_h, RO_slice_lh, RO_box, RO_alloc, RO_store, RO_clear, RO_callv0, RO_callv1, RO_callv2, RO_append, RO_load, RO_callf0, RO_callf1, RO_callf2, RO_callf3, RO_callf4, RO_guard, RO_nil, put_fr, opd_t, opd_c, upd_eq', upd_ne, ne_eq, ↓OM_some, ↓OM_none, ↓CM_bool, ↓CB_true, ↓CB_false, ↓GM_t, ↓GM_f, ↓GM_tup, OM_some, OM_none, CM_bool, CB_true, CB_false, GM_t, GM_f, GM_tup, reduceIte, reduceCtorEq, Nat.reduceLT, Nat.reduceEqDiff, not_false_eq_true, not_true_eq_false, bin_add, bin_sub, bin_mul, bin_eql, bin_neq, bin_lss, bin_leq, bin_gtr, bin_geq, bin_seql, bin_sneq, binb_eql, binb_neq, un_not, un_neg, pick_t, pick_f, mn_2, mx_2, len_nils, len_fs, len_row, eqa_2, bld2_int, lit2_int, decide_true, decide_false, Bool.not_true, Bool.not_false, Bool.false_eq_true, List.length_map, List.getD_cons_zero, List.getD_cons_succ, List.getD_nil, c4_r0, c4_r1, sv.len, sw.len, su.len, sm.len, hml, hmb, hmt, hmm, RO_lit4', lit4_int, c5]
    simp (disch := omega) only [RK_seq, RK_region0, RK_block, RK_cond, RK_skip, RK_ret, RK_exit, RE_seq, RE_seq_exit, RE_seq_ret, RE_block, RE_block_ret, RE_block_exit, RE_nil, RO_mv, RO_len, RO_bin, RO_binb, RO_un, RO_pick, RO_ixs, RO_fld, RO_part, RO_ixa, RO_ixv, RO_eqa, RO_eqn, RO_mx2, RO_mn2, RO_build2, RO_lit0, RO_lit1, RO_lit2, RO_mkfn0, RO_mkfn1, RO_cap, RO_slice_l, RO_slice_h, RO_slice_lh, RO_box, RO_alloc, RO_store, RO_clear, RO_callv0, RO_callv1, RO_callv2, RO_append, RO_load, RO_callf0, RO_callf1, RO_callf2, RO_callf3, RO_callf4, RO_guard, RO_nil, put_fr, opd_t, opd_c, upd_eq', upd_ne, ne_eq, ↓OM_some, ↓OM_none, ↓CM_bool, ↓CB_true, ↓CB_false, ↓GM_t, ↓GM_f, ↓GM_tup, OM_some, OM_none, CM_bool, CB_true, CB_false, GM_t, GM_f, GM_tup, reduceIte, reduceCtorEq, Nat.reduceLT, Nat.reduceEqDiff, not_false_eq_true, not_true_eq_false, bin_add, bin_sub, bin_mul, bin_eql, bin_neq, bin_lss, bin_leq, bin_gtr, bin_geq, bin_seql, bin_sneq, binb_eql, binb_neq, un_not, un_neg, pick_t, pick_f, mn_2, mx_2, len_nils, len_fs, len_row, eqa_2, bld2_int, lit2_int, decide_true, decide_false, Bool.not_true, Bool.not_false, Bool.false_eq_true, List.length_map, List.getD_cons_zero, List.getD_cons_succ, List.getD_nil, c4_r3, u1, c4_r4, c1, c4_r5, a1, b1, c4_r6, r1, s1, t1]
    simp (disch := omega) only [RK_seq, RK_region0, RK_block, RK_cond, RK_skip, RK_ret, RK_exit, RE_seq, RE_seq_exit, RE_seq_ret, RE_block, RE_block_ret, RE_block_exit, RE_nil, RO_mv, RO_len, RO_bin, RO_binb, RO_un, RO_pick, RO_ixs, RO_fld, RO_part, RO_ixa, RO_ixv, RO_eqa, RO_eqn, RO_mx2, RO_mn2, RO_build2, RO_lit0, RO_lit1, RO_lit2, RO_mkfn0, RO_mkfn1, RO_cap, RO_slice_l, RO_slice_h, RO_slice_lh, RO_box, RO_alloc, RO_store, RO_clear, RO_callv0, RO_callv1, RO_callv2, RO_append, RO_load, RO_callf0, RO_callf1, RO_callf2, RO_callf3, RO_callf4, RO_guard, RO_nil, put_fr, opd_t, opd_c, upd_eq', upd_ne, ne_eq, ↓OM_some, ↓OM_none, ↓CM_bool, ↓CB_true, ↓CB_false, ↓GM_t, ↓GM_f, ↓GM_tup, OM_some, OM_none, CM_bool, CB_true, CB_false, GM_t, GM_f, GM_tup, reduceIte, reduceCtorEq, Nat.reduceLT, Nat.reduceEqDiff, not_false_eq_true, not_true_eq_false, bin_add, bin_sub, bin_mul, bin_eql, bin_neq, bin_lss, bin_leq, bin_gtr, bin_geq, bin_seql, bin_sneq, binb_eql, binb_neq, un_not, un_neg, pick_t, pick_f, mn_2, mx_2, len_nils, len_fs, len_row, eqa_2, bld2_int, lit2_int, decide_true, decide_false, Bool.not_true, Bool.not_false, Bool.false_eq_true, List.length_map, List.getD_cons_zero, List.getD_cons_succ, List.getD_nil, c4_r7, x1, y1, x3, y2, x5, y3, x7, y4, x9, x11, x13, y5, c4_r9]
    refine f4_l0 L _ _ (by simp [upd']) (by simp [upd']) (by simp [upd']) (fun f' g => ?_) _ (fun _ _ => rfl) 0 (Nat.zero_le _) (by simp [upd'])
    have g0 := g 0 (by omega)
    have g2 := g 2 (by omega)
    have g10 := g 10 (by omega)
    simp [upd'] at g0 g2 g10
    clear g
    simp (disch := omega) only [RK_seq, RK_region0, RK_block, RK_cond, RK_skip, RK_ret, RK_exit, RE_seq, RE_seq_exit, RE_seq_ret, RE_block, RE_block_ret, RE_block_exit, RE_nil, RO_mv, RO_len, RO_bin, RO_binb, RO_un, RO_pick, RO_ixs, RO_fld, RO_part, RO_ixa, RO_ixv, RO_eqa, RO_eqn, RO_mx2, RO_mn2, RO_build2, RO_lit0, RO_lit1, RO_lit2, RO_mkfn0, RO_mkfn1, RO_cap, RO_slice_l, RO_slice_h, RO_slice_lh, RO_box, RO_alloc, RO_store, RO_clear, RO_callv0, RO_callv1, RO_callv2, RO_append, RO_load, RO_callf0, RO_callf1, RO_callf2, RO_callf3, RO_callf4, RO_guard, RO_nil, put_fr, opd_t, opd_c, upd_eq', upd_ne, ne_eq, ↓OM_some, ↓OM_none, ↓CM_bool, ↓CB_true, ↓CB_false, ↓GM_t, ↓GM_f, ↓GM_tup, OM_some, OM_none, CM_bool, CB_true, CB_false, GM_t, GM_f, GM_tup, reduceIte, reduceCtorEq, Nat.reduceLT, Nat.reduceEqDiff, not_false_eq_true, not_true_eq_false, bin_add, bin_sub, bin_mul, bin_eql, bin_neq, bin_lss, bin_leq, bin_gtr, bin_geq, bin_seql, bin_sneq, binb_eql, binb_neq, un_not, un_neg, pick_t, pick_f, mn_2, mx_2, len_nils, len_fs, len_row, eqa_2, bld2_int, lit2_int, decide_true, decide_false, Bool.not_true, Bool.not_false, Bool.false_eq_true, List.length_map, List.getD_cons_zero, List.getD_cons_succ, List.getD_nil, c4_r14, g2, p1, c4_r15, g10, w1, c4_r16]
    refine f4_l1 P _ _ (by simp [upd', g10]) (by simp [upd']) (by simp [upd']) (fun f2 g => ?_) _ (fun _ _ => rfl) 0 (Nat.zero_le _) (by simp [upd'])
    have g0 := (g 0 (by omega)).trans g0
    have g2 := (g 2 (by omega)).trans g2
    have g17 := g 17 (by omega)
    simp [upd'] at g17
    simp (disch := omega) only [RK_seq, RK_region0, RK_block, RK_cond, RK_skip, RK_ret, RK_exit, RE_seq, RE_seq_exit, RE_seq_ret, RE_block, RE_block_ret, RE_block_exit, RE_nil, RO_mv, RO_len, RO_bin, RO_binb, RO_un, RO_pick, RO_ixs, RO_fld, RO_part, RO_ixa, RO_ixv, RO_eqa, RO_eqn, RO_mx2, RO_mn2, RO_build2, RO_lit0, RO_lit1, RO_lit2, RO_mkfn0, RO_mkfn1, RO_cap, RO_slice_l, RO_slice_h, RO_slice_lh, RO_box, RO_alloc, RO_store, RO_clear, RO_callv0, RO_callv1, RO_callv2, RO_append, RO_load, RO_callf0, RO_callf1, RO_callf2, RO_callf3, RO_callf4, RO_guard, RO_nil, put_fr, opd_t, opd_c, upd_eq', upd_ne, ne_eq, ↓OM_some, ↓OM_none, ↓CM_bool, ↓CB_true, ↓CB_false, ↓GM_t, ↓GM_f, ↓GM_tup, OM_some, OM_none, CM_bool, CB_true, CB_false, GM_t, GM_f, GM_tup, reduceIte, reduceCtorEq, Nat.reduceLT, Nat.reduceEqDiff, not_false_eq_true, not_true_eq_false, bin_add, bin_sub, bin_mul, bin_eql, bin_neq, bin_lss, bin_leq, bin_gtr, bin_geq, bin_seql, bin_sneq, binb_eql, binb_neq, un_not, un_neg, pick_t, pick_f, mn_2, mx_2, len_nils, len_fs, len_row, eqa_2, bld2_int, lit2_int, decide_true, decide_false, Bool.not_true, Bool.not_false, Bool.false_eq_true, List.length_map, List.getD_cons_zero, List.getD_cons_succ, List.getD_nil, c4_r27, g0, g2, w3, g17, y6, f6_spec (cx := ⟨H.length, none⟩) (H := rp.2) n5, FinQ_ret, res_t]
end Go.Proofs.Tryt17A
end
