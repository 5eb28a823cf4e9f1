import Derived.Test.YtlnnhldhhaooiaaBh

set_option linter.unusedVariables false
set_option linter.unusedSimpArgs false
set_option linter.unusedSectionVars false
set_option linter.unnecessarySimpa false

section
namespace Go.Proofs.Tryt17A
open Go Go.AM
set_option linter.unusedSimpArgs false
set_option linter.unusedVariables false
variable {cx : Ctx} {H : Heap}

theorem f19_has {l : List (Int × Int)} {v : AV} (a b : Int) (hv : Fz v (l.map encP)) (hl : l.length < 4611686018427387904) (hw : cx.wp ≤ H.length) :
    callF (T prim23 prim36) (ev (T prim23 prim36)) cx 19 [v, .int .i64 a, .int .i64 b] H = some (.bool (hasB l a b), H) := by rw [f19_spec a b hv hl hw, hasB_good]

/-- What the first law holds, when its loops go. -/
structure L3 (N : Nat) (h : Heap) (la lb : List (Int × Int)) (to : List Int) (v w u was own l un c wo r p e : AV) : Prop where
  fv : Fz v (la.map encP)
  sv : Sl 2 h v (la.map encP)
  sw : Sl 2 h w (lb.map encP)
  su : Sl 1 h u (to.map encI)
  swas : Sl 2 h was (la.map encP)
  sown : Sl 1 h own (to.map encI)
  sl : Sl 2 h l ((ofL la).map encP)
  sun : Sl 2 h un ((ofL (la ++ lb)).map encP)
  sc : Sl 2 h c ((clL la to).map encP)
  swo : Sl 2 h wo ((woL la to).map encP)
  sr : Sl 1 h r ((rlL la to).map encI)
  sp : Sl 1 h p ((plL to).map encI)
  se : Sl 1 h e ((endsL la lb to).map encI)
  nN : N ≤ h.length
  nla : la.length ≤ 40
  nlb : lb.length ≤ 40
  nto : to.length ≤ 40
  nl : (ofL la).length < 4611686018427387904
  nu : (ofL (la ++ lb)).length < 4611686018427387904
  nc : (clL la to).length < 4611686018427387904
  nw : (woL la to).length < 4611686018427387904
  nr : (rlL la to).length < 4611686018427387904
  np : (plL to).length < 4611686018427387904
  ne : (endsL la lb to).length < 4611686018427387904
section
variable {N : Nat} {h : Heap} {la lb : List (Int × Int)} {to : List Int} {v w u was own l un c wo r p e : AV} (L : L3 N h la lb to v w u was own l un c wo r p e)
include L

set_option maxHeartbeats 4000000 in
theorem f3_l1 (Q : Ex → St → Prop) (f0 : Nat → AV)
    (g0 : f0 0 = v) (g1 : f0 1 = w) (g2 : f0 2 = u) (g9 : f0 9 = l) (g10 : f0 10 = un) (g11 : f0 11 = c) (g12 : f0 12 = wo) (g15 : f0 15 = e) (x : Int) (g17 : f0 17 = .int .i64 x)
    (q0 : ∀ f', (∀ n, n < 18 → f' n = f0 n) → Q (.exit 2) ⟨mkfr 255 f', [], h⟩)
    (f : Nat → AV) (hf : ∀ n, n < 18 → f n = f0 n) (k : Nat) (hk : k ≤ (endsL la lb to).length) (h18 : f 18 = .int .i64 k) :
    R (T prim23 prim36) ⟨N, none⟩ c3_l1 ⟨mkfr 255 f, [], h⟩ Q := by
  have f0' := (hf 0 (by omega)).trans g0
  have f1' := (hf 1 (by omega)).trans g1
  have f2' := (hf 2 (by omega)).trans g2
  have f9' := (hf 9 (by omega)).trans g9
  have f10' := (hf 10 (by omega)).trans g10
  have f11' := (hf 11 (by omega)).trans g11
  have f12' := (hf 12 (by omega)).trans g12
  have f15' := (hf 15 (by omega)).trans g15
  have f17' := (hf 17 (by omega)).trans g17
  rw [c3_l1, R_loop, ← c3_l1, c3_lb1]
  by_cases hlt : k < (endsL la lb to).length
  · have e1 : ((k : Int) < ((endsL la lb to).length : Int)) = True := by simp; omega
    have hlm : k < ((endsL la lb to).map encI).length := by simpa using hlt
    have hle := L.ne
    have hla := L.nla
    have hlb := L.nlb
    have hto := L.nto
    have next : ∀ f' : Nat → AV, (∀ n, n < 18 → f' n = f0 n) → f' 18 = .int .i64 ((k : Int) + 1) → R (T prim23 prim36) ⟨N, none⟩ c3_l1 ⟨mkfr 255 f', [], h⟩ Q := fun f' g g18 =>
      f3_l1 Q f0 g0 g1 g2 g9 g10 g11 g12 g15 x g17 q0 f' g (k + 1) hlt (by rw [g18]; rfl)
    generalize hy : (endsL la lb to)[k] = y
    have ey : partOf false 0 1 (((endsL la lb to).map encI).getD k []) = some (.int .i64 y) := by rw [encI_get _ k hlt, hy]; rfl
    have lx := L.se.ld hlm (k := .i64) (ag := false) (n := 1)
    rw [ey] at lx
    have ix := L.se.ixs hlm (k := .i64)
    have c1 := f18_spec (p23 := prim23) (p36 := prim36) (cx := ⟨N, none⟩) la x y v L.sv (by omega) L.nN
    have c2 := f19_has (cx := ⟨N, none⟩) (H := h) x y L.fv (by omega) L.nN
    have c3 := f18_spec (p23 := prim23) (p36 := prim36) (cx := ⟨N, none⟩) _ x y l L.sl L.nl L.nN
    have c4 := f18_spec (p23 := prim23) (p36 := prim36) (cx := ⟨N, none⟩) _ x y un L.sun L.nu L.nN
    have c5 := f18_spec (p23 := prim23) (p36 := prim36) (cx := ⟨N, none⟩) _ x y c L.sc L.nc L.nN
    have c6 := f18_spec (p23 := prim23) (p36 := prim36) (cx := ⟨N, none⟩) _ x y wo L.swo L.nw L.nN
    have c7 := f18_spec (p23 := prim23) (p36 := prim36) (cx := ⟨N, none⟩) lb x y w L.sw (by omega) L.nN
    have c8 := f16_spec (p23 := prim23) (p36 := prim36) (cx := ⟨N, none⟩) to x u L.su (by omega) L.nN
    have c9 := f16_spec (p23 := prim23) (p36 := prim36) (cx := ⟨N, none⟩) to y u L.su (by omega) L.nN
    rw [hasB_of] at c3
    rw [hasB_un] at c4
    rw [hasB_cl] at c5
    rw [hasB_wo] at c6
    simp (disch := omega) only [RK_seq, RK_region0, RK_block, RK_cond, RK_skip, RK_ret, RK_exit, RE_seq, RE_seq_exit, RE_seq_ret, RE_block, RE_block_ret, RE_block_exit, RE_nil, RO_mv, RO_len, RO_bin, RO_binb, RO_un, RO_pick, RO_ixs, RO_fld, RO_part, RO_ixa, RO_ixv, RO_eqa, RO_eqn, RO_mx2, RO_mn2, RO_build2, RO_lit0, RO_lit1, RO_lit2, RO_mkfn0, RO_mkfn1, RO_cap, RO_slice_l, RO_slice_h, RO_slice_lh, RO_box, RO_alloc, RO_store, RO_clear, RO_callv0, RO_callv1, RO_callv2, RO_append, RO_load, RO_callf0, RO_callf1, RO_callf2, RO_callf3, RO_callf4, RO_guard, RO_nil, put_fr, opd_t, opd_c, upd_eq', upd_ne, ne_eq, ↓OM_some, ↓OM_none, ↓CM_bool, ↓CB_true, ↓CB_false, ↓GM_t, ↓GM_f, ↓GM_tup, OM_some, OM_none, CM_bool, CB_true, CB_false, GM_t, GM_f, GM_tup, reduceIte, reduceCtorEq, Nat.reduceLT, Nat.reduceEqDiff, not_false_eq_true, not_true_eq_false, bin_add, bin_sub, bin_mul, bin_eql, bin_neq, bin_lss, bin_leq, bin_gtr, bin_geq, bin_seql, bin_sneq, binb_eql, binb_neq, un_not, un_neg, pick_t, pick_f, mn_2, mx_2, len_nils, len_fs, len_row, eqa_2, bld2_int, lit2_int, decide_true, decide_false, Bool.not_true, Bool.not_false, Bool.false_eq_true, List.length_map, List.getD_cons_zero, List.getD_cons_succ, List.getD_nil, c3_r15, f15', h18, L.se.len, e1, c3_r16, ix, lx, c3_r17, f0', f17', c1]
    generalize hasB la x y = has at *
    generalize hasB lb x y = hb at *
    generalize inB to x = i1 at *
    generalize inB to y = i2 at *
    generalize hxy : decide (x = y) = d at *
    cases has <;> cases d <;> cases i1 <;>
    · simp (disch := omega) only [RK_seq, RK_region0, RK_block, RK_cond, RK_skip, RK_ret, RK_exit, RE_seq, RE_seq_exit, RE_seq_ret, RE_block, RE_block_ret, RE_block_exit, RE_nil, RO_mv, RO_len, RO_bin, RO_binb, RO_un, RO_pick, RO_ixs, RO_fld, RO_part, RO_ixa, RO_ixv, RO_eqa, RO_eqn, RO_mx2, RO_mn2, RO_build2, RO_lit0, RO_lit1, RO_lit2, RO_mkfn0, RO_mkfn1, RO_cap, RO_slice_l, RO_slice_h, RO_slice_lh, RO_box, RO_alloc, RO_store, RO_clear, RO_callv0, RO_callv1, RO_callv2, RO_append, RO_load, RO_callf0, RO_callf1, RO_callf2, RO_callf3, RO_callf4, RO_guard, RO_nil, put_fr, opd_t, opd_c, upd_eq', upd_ne, ne_eq, ↓OM_some, ↓OM_none, ↓CM_bool, ↓CB_true, ↓CB_false, ↓GM_t, ↓GM_f, ↓GM_tup, OM_some, OM_none, CM_bool, CB_true, CB_false, GM_t, GM_f, GM_tup, reduceIte, reduceCtorEq, Nat.reduceLT, Nat.reduceEqDiff, not_false_eq_true, not_true_eq_false, bin_add, bin_sub, bin_mul, bin_eql, bin_neq, bin_lss, bin_leq, bin_gtr, bin_geq, bin_seql, bin_sneq, binb_eql, binb_neq, un_not, un_neg, pick_t, pick_f, mn_2, mx_2, len_nils, len_fs, len_row, eqa_2, bld2_int, lit2_int, decide_true, decide_false, Bool.not_true, Bool.not_false, Bool.false_eq_true, List.length_map, List.getD_cons_zero, List.getD_cons_succ, List.getD_nil, c3_r18, f0', f17', c1, c2, f9', c3, f10', c4, f1', c7, f11', c5, f2', c8, c9, f12', c6, hxy, eq_self, Bool.true_or, Bool.false_or, Bool.true_and, Bool.false_and, c3_r20, h18, wrap64]
      refine next _ (fun n hn => ?_) (by simp [upd'])
      simp (disch := omega) only [upd_ne]
      exact hf n hn
  · have : k = (endsL la lb to).length := by omega
    subst this
    have hm := List.length_map (as := endsL la lb to) encI
    simp (disch := omega) only [RK_seq, RK_region0, RK_block, RK_cond, RK_skip, RK_ret, RK_exit, RE_seq, RE_seq_exit, RE_seq_ret, RE_block, RE_block_ret, RE_block_exit, RE_nil, RO_mv, RO_len, RO_bin, RO_binb, RO_un, RO_pick, RO_ixs, RO_fld, RO_part, RO_ixa, RO_ixv, RO_eqa, RO_eqn, RO_mx2, RO_mn2, RO_build2, RO_lit0, RO_lit1, RO_lit2, RO_mkfn0, RO_mkfn1, RO_cap, RO_slice_l, RO_slice_h, RO_slice_lh, RO_box, RO_alloc, RO_store, RO_clear, RO_callv0, RO_callv1, RO_callv2, RO_append, RO_load, RO_callf0, RO_callf1, RO_callf2, RO_callf3, RO_callf4, RO_guard, RO_nil, put_fr, opd_t, opd_c, upd_eq', upd_ne, ne_eq, ↓OM_some, ↓OM_none, ↓CM_bool, ↓CB_true, ↓CB_false, ↓GM_t, ↓GM_f, ↓GM_tup, OM_some, OM_none, CM_bool, CB_true, CB_false, GM_t, GM_f, GM_tup, reduceIte, reduceCtorEq, Nat.reduceLT, Nat.reduceEqDiff, not_false_eq_true, not_true_eq_false, bin_add, bin_sub, bin_mul, bin_eql, bin_neq, bin_lss, bin_leq, bin_gtr, bin_geq, bin_seql, bin_sneq, binb_eql, binb_neq, un_not, un_neg, pick_t, pick_f, mn_2, mx_2, len_nils, len_fs, len_row, eqa_2, bld2_int, lit2_int, decide_true, decide_false, Bool.not_true, Bool.not_false, Bool.false_eq_true, List.length_map, List.getD_cons_zero, List.getD_cons_succ, List.getD_nil, c3_r15, f15', h18, L.se.len, hm, Int.lt_irrefl]
    refine q0 _ (fun n hn => ?_)
    simp (disch := omega) only [upd_ne]
    exact hf n hn
termination_by (endsL la lb to).length - k
end
end Go.Proofs.Tryt17A
end
