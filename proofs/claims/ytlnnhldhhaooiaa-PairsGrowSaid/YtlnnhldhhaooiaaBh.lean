import Derived.Test.YtlnnhldhhaooiaaBg

set_option linter.unusedVariables false
set_option linter.unusedSimpArgs false
set_option linter.unusedSectionVars false
set_option linter.unnecessarySimpa false

section
namespace Go.Proofs.Tryt17A
open Go Go.AM
set_option linter.unusedSimpArgs false
set_option linter.unusedVariables false
variable {cx : Ctx} {H : Heap}

/-! ### ends -/
def fl (l : List (Int × Int)) : List Int := l.flatMap fun p => [p.1, p.2]
theorem fl_snoc (l : List (Int × Int)) (i : Nat) (h : i < l.length) : fl (l.take (i + 1)) = fl (l.take i) ++ [l[i].1, l[i].2] := by
  rw [List.take_succ_eq_append_getElem h]; simp only [fl, List.flatMap_append, List.flatMap_cons, List.flatMap_nil, List.append_nil]
theorem fl_len (l : List (Int × Int)) : (fl l).length = 2 * l.length := by
  induction l with
  | nil => rfl
  | cons a l ih => simp only [fl, List.flatMap_cons, List.length_append, List.length_cons, List.length_nil] at *; omega
theorem mx8 {n : Nat} (h : n ≤ 1000000) : n * 8 ≤ maxLn := Nat.le_trans (Nat.mul_le_mul_right 8 h) (by decide)
theorem mx1 {n : Nat} (h : n ≤ 1000000) : n ≤ maxLn := Nat.le_trans h (by decide)

theorem lit2_sl {H : Heap} {a b : Int} : Sl 1 H (.fs [[.int .i64 a], [.int .i64 b]] true) ([a, b].map encI) := .fs (by simp [encI])

theorem f15_loop0 (l : List (Int × Int)) (v : AV) (hv : Fz v (l.map encP)) (base : List Int) (hb : base.length + 2 * l.length ≤ 100000) (wp : Nat) (w : AV)
    (Q : Ex → St → Prop) (q0 : ∀ f' h' s, OwE 1 wp h' s ((base ++ fl l).map encI) → wp ≤ h'.length → f' 7 = s → f' 1 = w → Q (.exit 0) ⟨mkfr 52 f', [], h'⟩)
    (f : Nat → AV) (h0 : f 0 = v) (h1 : f 1 = w) (i : Nat) (hi : i ≤ l.length) (h8 : f 8 = .int .i64 i) (h : Heap) (s : AV) (h7 : f 7 = s) (ho : OwE 1 wp h s ((base ++ fl (l.take i)).map encI)) (hwh : wp ≤ h.length) :
    R (T prim23 prim36) ⟨wp, none⟩ c15_l0 ⟨mkfr 52 f, [], h⟩ Q := by
  rw [c15_l0, R_loop, ← c15_l0, c15_lb0]
  have hs := hv.sl (z := 2) (lensP _) h
  have hlen := hs.len
  rw [List.length_map] at hlen
  by_cases hlt : i < l.length
  · have e1 : ((i : Int) < (l.length : Int)) = True := by simp; omega
    have hat := atP hs hlt
    have sn := fl_snoc l i hlt
    have lb : ((base ++ fl (l.take i)).map encI).length ≤ base.length + 2 * l.length := by
      rw [List.length_map, List.length_append, fl_len, List.length_take]; omega
    obtain ⟨u, h', a1, a2, a3, a4⟩ := ap_any (bytes := 8) ho hwh (lensI _) (lit2_sl (a := l[i].1) (b := l[i].2)) (lensI _) (mx8 (by simp only [List.length_map, List.length_cons, List.length_nil] at lb ⊢; omega)) (mx1 (by simp only [List.length_map, List.length_cons, List.length_nil] at lb ⊢; omega))
    simp (disch := omega) only [RK_seq, RK_region0, RK_block, RK_cond, RK_skip, RK_ret, RK_exit, RE_seq, RE_seq_exit, RE_seq_ret, RE_block, RE_block_ret, RE_block_exit, RE_nil, RO_mv, RO_len, RO_bin, RO_binb, RO_un, RO_pick, RO_ixs, RO_fld, RO_part, RO_ixa, RO_ixv, RO_eqa, RO_eqn, RO_mx2, RO_mn2, RO_build2, RO_lit0, RO_lit1, RO_lit2, RO_mkfn0, RO_mkfn1, RO_cap, RO_slice_l, RO_slice_h, RO_slice_lh, RO_box, RO_alloc, RO_store, RO_clear, RO_callv0, RO_callv1, RO_callv2, RO_append, RO_load, RO_callf0, RO_callf1, RO_callf2, RO_callf3, RO_callf4, RO_guard, RO_nil, put_fr, opd_t, opd_c, upd_eq', upd_ne, ne_eq, ↓OM_some, ↓OM_none, ↓CM_bool, ↓CB_true, ↓CB_false, ↓GM_t, ↓GM_f, ↓GM_tup, OM_some, OM_none, CM_bool, CB_true, CB_false, GM_t, GM_f, GM_tup, reduceIte, reduceCtorEq, Nat.reduceLT, Nat.reduceEqDiff, not_false_eq_true, not_true_eq_false, bin_add, bin_sub, bin_mul, bin_eql, bin_neq, bin_lss, bin_leq, bin_gtr, bin_geq, bin_seql, bin_sneq, binb_eql, binb_neq, un_not, un_neg, pick_t, pick_f, mn_2, mx_2, len_nils, len_fs, len_row, eqa_2, bld2_int, lit2_int, decide_true, decide_false, Bool.not_true, Bool.not_false, Bool.false_eq_true, List.length_map, List.getD_cons_zero, List.getD_cons_succ, List.getD_nil, c15_r3, c15_r4, c15_r5, h0, h7, h8, hlen, e1, hat.ixs, hat.ixa0, hat.ixa1, hat.ld0, hat.ld1, a1, wrap64]
    exact f15_loop0 l v hv base hb wp w Q q0 _ (by simp [upd', h0]) (by simp [upd', h1]) (i + 1) hlt (by simp [upd']) h' u (by simp [upd']) (by rw [sn, ← List.append_assoc, List.map_append]; exact a2) (by omega)
  · have : i = l.length := by omega
    subst this
    rw [List.take_length] at ho
    simp (disch := omega) only [RK_seq, RK_region0, RK_block, RK_cond, RK_skip, RK_ret, RK_exit, RE_seq, RE_seq_exit, RE_seq_ret, RE_block, RE_block_ret, RE_block_exit, RE_nil, RO_mv, RO_len, RO_bin, RO_binb, RO_un, RO_pick, RO_ixs, RO_fld, RO_part, RO_ixa, RO_ixv, RO_eqa, RO_eqn, RO_mx2, RO_mn2, RO_build2, RO_lit0, RO_lit1, RO_lit2, RO_mkfn0, RO_mkfn1, RO_cap, RO_slice_l, RO_slice_h, RO_slice_lh, RO_box, RO_alloc, RO_store, RO_clear, RO_callv0, RO_callv1, RO_callv2, RO_append, RO_load, RO_callf0, RO_callf1, RO_callf2, RO_callf3, RO_callf4, RO_guard, RO_nil, put_fr, opd_t, opd_c, upd_eq', upd_ne, ne_eq, ↓OM_some, ↓OM_none, ↓CM_bool, ↓CB_true, ↓CB_false, ↓GM_t, ↓GM_f, ↓GM_tup, OM_some, OM_none, CM_bool, CB_true, CB_false, GM_t, GM_f, GM_tup, reduceIte, reduceCtorEq, Nat.reduceLT, Nat.reduceEqDiff, not_false_eq_true, not_true_eq_false, bin_add, bin_sub, bin_mul, bin_eql, bin_neq, bin_lss, bin_leq, bin_gtr, bin_geq, bin_seql, bin_sneq, binb_eql, binb_neq, un_not, un_neg, pick_t, pick_f, mn_2, mx_2, len_nils, len_fs, len_row, eqa_2, bld2_int, lit2_int, decide_true, decide_false, Bool.not_true, Bool.not_false, Bool.false_eq_true, List.length_map, List.getD_cons_zero, List.getD_cons_succ, List.getD_nil, c15_r3, h0, h8, hlen, Int.lt_irrefl]
    exact q0 _ _ s ho hwh (by simp [upd', h7]) (by simp [upd', h1])
termination_by l.length - i

theorem f15_loop1 (l : List (Int × Int)) (v : AV) (hv : Fz v (l.map encP)) (base : List Int) (hb : base.length + 2 * l.length ≤ 100000) (wp : Nat)
    (Q : Ex → St → Prop) (q0 : ∀ f' h' s, OwE 1 wp h' s ((base ++ fl l).map encI) → wp ≤ h'.length → f' 7 = s → Q (.exit 2) ⟨mkfr 52 f', [], h'⟩)
    (f : Nat → AV) (h1 : f 1 = v) (i : Nat) (hi : i ≤ l.length) (h9 : f 9 = .int .i64 i) (h : Heap) (s : AV) (h7 : f 7 = s) (ho : OwE 1 wp h s ((base ++ fl (l.take i)).map encI)) (hwh : wp ≤ h.length) :
    R (T prim23 prim36) ⟨wp, none⟩ c15_l1 ⟨mkfr 52 f, [], h⟩ Q := by
  rw [c15_l1, R_loop, ← c15_l1, c15_lb1]
  have hs := hv.sl (z := 2) (lensP _) h
  have hlen := hs.len
  rw [List.length_map] at hlen
  by_cases hlt : i < l.length
  · have e1 : ((i : Int) < (l.length : Int)) = True := by simp; omega
    have hat := atP hs hlt
    have sn := fl_snoc l i hlt
    have lb : ((base ++ fl (l.take i)).map encI).length ≤ base.length + 2 * l.length := by
      rw [List.length_map, List.length_append, fl_len, List.length_take]; omega
    obtain ⟨u, h', a1, a2, a3, a4⟩ := ap_any (bytes := 8) ho hwh (lensI _) (lit2_sl (a := l[i].1) (b := l[i].2)) (lensI _) (mx8 (by simp only [List.length_map, List.length_cons, List.length_nil] at lb ⊢; omega)) (mx1 (by simp only [List.length_map, List.length_cons, List.length_nil] at lb ⊢; omega))
    simp (disch := omega) only [RK_seq, RK_region0, RK_block, RK_cond, RK_skip, RK_ret, RK_exit, RE_seq, RE_seq_exit, RE_seq_ret, RE_block, RE_block_ret, RE_block_exit, RE_nil, RO_mv, RO_len, RO_bin, RO_binb, RO_un, RO_pick, RO_ixs, RO_fld, RO_part, RO_ixa, RO_ixv, RO_eqa, RO_eqn, RO_mx2, RO_mn2, RO_build2, RO_lit0, RO_lit1, RO_lit2, RO_mkfn0, RO_mkfn1, RO_cap, RO_slice_l, RO_slice_h, RO_slice_lh, RO_box, RO_alloc, RO_store, RO_clear, RO_callv0, RO_callv1, RO_callv2, RO_append, RO_load, RO_callf0, RO_callf1, RO_callf2, RO_callf3, RO_callf4, RO_guard, RO_nil, put_fr, opd_t, opd_c, upd_eq', upd_ne, ne_eq, ↓OM_some, ↓OM_none, ↓CM_bool, ↓CB_true, ↓CB_false, ↓GM_t, ↓GM_f, ↓GM_tup, OM_some, OM_none, CM_bool, CB_true, CB_false, GM_t, GM_f, GM_tup, reduceIte, reduceCtorEq, Nat.reduceLT, Nat.reduceEqDiff, not_false_eq_true, not_true_eq_false, bin_add, bin_sub, bin_mul, bin_eql, bin_neq, bin_lss, bin_leq, bin_gtr, bin_geq, bin_seql, bin_sneq, binb_eql, binb_neq, un_not, un_neg, pick_t, pick_f, mn_2, mx_2, len_nils, len_fs, len_row, eqa_2, bld2_int, lit2_int, decide_true, decide_false, Bool.not_true, Bool.not_false, Bool.false_eq_true, List.length_map, List.getD_cons_zero, List.getD_cons_succ, List.getD_nil, c15_r7, c15_r8, c15_r9, h1, h7, h9, hlen, e1, hat.ixs, hat.ixa0, hat.ixa1, hat.ld0, hat.ld1, a1, wrap64]
    exact f15_loop1 l v hv base hb wp Q q0 _ (by simp [upd', h1]) (i + 1) hlt (by simp [upd']) h' u (by simp [upd']) (by rw [sn, ← List.append_assoc, List.map_append]; exact a2) (by omega)
  · have : i = l.length := by omega
    subst this
    rw [List.take_length] at ho
    simp (disch := omega) only [RK_seq, RK_region0, RK_block, RK_cond, RK_skip, RK_ret, RK_exit, RE_seq, RE_seq_exit, RE_seq_ret, RE_block, RE_block_ret, RE_block_exit, RE_nil, RO_mv, RO_len, RO_bin, RO_binb, RO_un, RO_pick, RO_ixs, RO_fld, RO_part, RO_ixa, RO_ixv, RO_eqa, RO_eqn, RO_mx2, RO_mn2, RO_build2, RO_lit0, RO_lit1, RO_lit2, RO_mkfn0, RO_mkfn1, RO_cap, RO_slice_l, RO_slice_h, RO_slice_lh, RO_box, RO_alloc, RO_store, RO_clear, RO_callv0, RO_callv1, RO_callv2, RO_append, RO_load, RO_callf0, RO_callf1, RO_callf2, RO_callf3, RO_callf4, RO_guard, RO_nil, put_fr, opd_t, opd_c, upd_eq', upd_ne, ne_eq, ↓OM_some, ↓OM_none, ↓CM_bool, ↓CB_true, ↓CB_false, ↓GM_t, ↓GM_f, ↓GM_tup, OM_some, OM_none, CM_bool, CB_true, CB_false, GM_t, GM_f, GM_tup, reduceIte, reduceCtorEq, Nat.reduceLT, Nat.reduceEqDiff, not_false_eq_true, not_true_eq_false, bin_add, bin_sub, bin_mul, bin_eql, bin_neq, bin_lss, bin_leq, bin_gtr, bin_geq, bin_seql, bin_sneq, binb_eql, binb_neq, un_not, un_neg, pick_t, pick_f, mn_2, mx_2, len_nils, len_fs, len_row, eqa_2, bld2_int, lit2_int, decide_true, decide_false, Bool.not_true, Bool.not_false, Bool.false_eq_true, List.length_map, List.getD_cons_zero, List.getD_cons_succ, List.getD_nil, c15_r7, h1, h9, hlen, Int.lt_irrefl]
    exact q0 _ _ s ho hwh (by simp [upd', h7])
termination_by l.length - i

theorem RO_lit4 {T : Tab} {cx : Ctx} {Q : Ex → St → Prop} {K : List Kont} {b0 d : Nat} {fr : List AV} {ds : List Nat} {h : Heap} {rest : List AO} {a b c e : Int} :
    RO T cx Q K b0 (⟨some d, .lit 4 [(.int .i64 0)] [(0, (.c (.int .i64 a))), (1, (.c (.int .i64 b))), (2, (.c (.int .i64 c))), (3, (.c (.int .i64 e)))], none⟩ :: rest) ⟨fr, ds, h⟩ ↔
    RO T cx Q K b0 rest ⟨fr.set d (.fs ([a, b, c, e].map encI) true), ds, h⟩ := by
  rw [RO_lit]
  have : (fillRow ([AV.int .i64 0] : List AV).length (List.replicate 4 [AV.int .i64 0]) (mkParts' fr [(0, (.c (.int .i64 a))), (1, (.c (.int .i64 b))), (2, (.c (.int .i64 c))), (3, (.c (.int .i64 e)))])).map (fun es => AV.fs es true) = some (.fs ([a, b, c, e].map encI) true) := by
    simp [mkParts', opd, fillRow, AV.cells, List.replicate, encI]
  rw [this]; rfl

def endsL (l m : List (Int × Int)) (more : List Int) : List Int := [-1, 0, 1, 7] ++ more ++ fl l ++ fl m

theorem f15_spec {l m : List (Int × Int)} {more : List Int} {v w u : AV} (hv : Fz v (l.map encP)) (hw' : Fz w (m.map encP)) (hu : Fz u (more.map encI)) (hl : l.length ≤ 1000) (hm : m.length ≤ 1000) (hmo : more.length ≤ 1000) (hw : cx.wp ≤ H.length) :
    ∃ r, callF (T prim23 prim36) (ev (T prim23 prim36)) cx 15 [v, w, u] H = some (r, H) ∧ Fz r ((endsL l m more).map encI) := by
  refine pure_of (callF_codeE (a := a15) rfl hw (Nat.le_of_ble_eq_true rfl) ?_)
  simp only [a15, c15, Ctx.enter]
  obtain ⟨s, h', a1, a2, a3, a4⟩ := ap_any (wp := H.length) (h := H) (z := 1) (bytes := 8) (s := .fs ([-1, 0, 1, 7].map encI) true) (x := u) (es := [-1, 0, 1, 7].map encI) (new := more.map encI) (.inr (.inl rfl)) (Nat.le_refl _) (lensI _) (hu.sl (lensI _) H) (lensI _) (mx8 (by simp; omega)) (mx1 (by simp; omega))
  simp (disch := omega) only [RK_seq, RK_region0, RK_block, RK_cond, RK_skip, RK_ret, RK_exit, RE_seq, RE_seq_exit, RE_seq_ret, RE_block, RE_block_ret, RE_block_exit, RE_nil, RO_mv, RO_len, RO_bin, RO_binb, RO_un, RO_pick, RO_ixs, RO_fld, RO_part, RO_ixa, RO_ixv, RO_eqa, RO_eqn, RO_mx2, RO_mn2, RO_build2, RO_lit0, RO_lit1, RO_lit2, RO_mkfn0, RO_mkfn1, RO_cap, RO_slice_l, RO_slice_h, RO_slice_lh, RO_box, RO_alloc, RO_store, RO_clear, RO_callv0, RO_callv1, RO_callv2, RO_append, RO_load, RO_callf0, RO_callf1, RO_callf2, RO_callf3, RO_callf4, RO_guard, RO_nil, put_fr, opd_t, opd_c, upd_eq', upd_ne, ne_eq, ↓OM_some, ↓OM_none, ↓CM_bool, ↓CB_true, ↓CB_false, ↓GM_t, ↓GM_f, ↓GM_tup, OM_some, OM_none, CM_bool, CB_true, CB_false, GM_t, GM_f, GM_tup, reduceIte, reduceCtorEq, Nat.reduceLT, Nat.reduceEqDiff, not_false_eq_true, not_true_eq_false, bin_add, bin_sub, bin_mul, bin_eql, bin_neq, bin_lss, bin_leq, bin_gtr, bin_geq, bin_seql, bin_sneq, binb_eql, binb_neq, un_not, un_neg, pick_t, pick_f, mn_2, mx_2, len_nils, len_fs, len_row, eqa_2, bld2_int, lit2_int, decide_true, decide_false, Bool.not_true, Bool.not_false, Bool.false_eq_true, List.length_map, List.getD_cons_zero, List.getD_cons_succ, List.getD_nil, c15_r0, c15_r1, c15_r2, RO_lit4, a1]
  refine f15_loop0 l v hv ([-1, 0, 1, 7] ++ more) (by simp; omega) H.length w _ (fun f' h'' s' o' w' g7 g1 => ?_) _ (by simp [upd']) (by simp [upd']) 0 (Nat.zero_le _) (by simp [upd']) h' s (by simp [upd']) (by simpa [fl] using a2) a3
  simp (disch := omega) only [RK_seq, RK_region0, RK_block, RK_cond, RK_skip, RK_ret, RK_exit, RE_seq, RE_seq_exit, RE_seq_ret, RE_block, RE_block_ret, RE_block_exit, RE_nil, RO_mv, RO_len, RO_bin, RO_binb, RO_un, RO_pick, RO_ixs, RO_fld, RO_part, RO_ixa, RO_ixv, RO_eqa, RO_eqn, RO_mx2, RO_mn2, RO_build2, RO_lit0, RO_lit1, RO_lit2, RO_mkfn0, RO_mkfn1, RO_cap, RO_slice_l, RO_slice_h, RO_slice_lh, RO_box, RO_alloc, RO_store, RO_clear, RO_callv0, RO_callv1, RO_callv2, RO_append, RO_load, RO_callf0, RO_callf1, RO_callf2, RO_callf3, RO_callf4, RO_guard, RO_nil, put_fr, opd_t, opd_c, upd_eq', upd_ne, ne_eq, ↓OM_some, ↓OM_none, ↓CM_bool, ↓CB_true, ↓CB_false, ↓GM_t, ↓GM_f, ↓GM_tup, OM_some, OM_none, CM_bool, CB_true, CB_false, GM_t, GM_f, GM_tup, reduceIte, reduceCtorEq, Nat.reduceLT, Nat.reduceEqDiff, not_false_eq_true, not_true_eq_false, bin_add, bin_sub, bin_mul, bin_eql, bin_neq, bin_lss, bin_leq, bin_gtr, bin_geq, bin_seql, bin_sneq, binb_eql, binb_neq, un_not, un_neg, pick_t, pick_f, mn_2, mx_2, len_nils, len_fs, len_row, eqa_2, bld2_int, lit2_int, decide_true, decide_false, Bool.not_true, Bool.not_false, Bool.false_eq_true, List.length_map, List.getD_cons_zero, List.getD_cons_succ, List.getD_nil, c15_r6]
  refine f15_loop1 m w hw' ([-1, 0, 1, 7] ++ more ++ fl l) (by simp [fl_len]; omega) H.length _ (fun f' h'' s' o' w' g7 => ?_) _ (by simp [upd', g1]) 0 (Nat.zero_le _) (by simp [upd']) h'' s' (by simp [upd', g7]) (by simpa [fl] using o') w'
  simp (disch := omega) only [RK_seq, RK_region0, RK_block, RK_cond, RK_skip, RK_ret, RK_exit, RE_seq, RE_seq_exit, RE_seq_ret, RE_block, RE_block_ret, RE_block_exit, RE_nil, RO_mv, RO_len, RO_bin, RO_binb, RO_un, RO_pick, RO_ixs, RO_fld, RO_part, RO_ixa, RO_ixv, RO_eqa, RO_eqn, RO_mx2, RO_mn2, RO_build2, RO_lit0, RO_lit1, RO_lit2, RO_mkfn0, RO_mkfn1, RO_cap, RO_slice_l, RO_slice_h, RO_slice_lh, RO_box, RO_alloc, RO_store, RO_clear, RO_callv0, RO_callv1, RO_callv2, RO_append, RO_load, RO_callf0, RO_callf1, RO_callf2, RO_callf3, RO_callf4, RO_guard, RO_nil, put_fr, opd_t, opd_c, upd_eq', upd_ne, ne_eq, ↓OM_some, ↓OM_none, ↓CM_bool, ↓CB_true, ↓CB_false, ↓GM_t, ↓GM_f, ↓GM_tup, OM_some, OM_none, CM_bool, CB_true, CB_false, GM_t, GM_f, GM_tup, reduceIte, reduceCtorEq, Nat.reduceLT, Nat.reduceEqDiff, not_false_eq_true, not_true_eq_false, bin_add, bin_sub, bin_mul, bin_eql, bin_neq, bin_lss, bin_leq, bin_gtr, bin_geq, bin_seql, bin_sneq, binb_eql, binb_neq, un_not, un_neg, pick_t, pick_f, mn_2, mx_2, len_nils, len_fs, len_row, eqa_2, bld2_int, lit2_int, decide_true, decide_false, Bool.not_true, Bool.not_false, Bool.false_eq_true, List.length_map, List.getD_cons_zero, List.getD_cons_succ, List.getD_nil, c15_r10, g7, FinQ_ret, res_t]
  obtain ⟨x, u1, u2⟩ := leave2_OwE (h0 := H) o' (underI _)
  exact ⟨_, u1, rfl, u2⟩
end Go.Proofs.Tryt17A
end

section
namespace Go.Proofs.Tryt17A
open Go Go.AM
set_option linter.unusedSimpArgs false
set_option linter.unusedVariables false
variable {cx : Ctx} {H : Heap}

/-! ### Has -/
def wantP (a b : Int) : Int × Int := (if b < a then b else a, if a < b then b else a)

structure Hs (n : Nat) (f0 : Nat → AV) (w : Int × Int) (h : Heap) : Prop where
  len : n + 5 ≤ h.length
  c6 : h[n]? = some (.cells 0 [[.bool false]])
  c7 : h[n + 1]? = some (.cells 0 [encP w])
  def_ : h[n + 3]? = some .defer
  loop : h[n + 4]? = some (.loop 19018 (mkfr 22 f0) .ready)

theorem Hs.push {n : Nat} {f0 : Nat → AV} {w : Int × Int} {h : Heap} (hc : Hs n f0 w h) (bx : Box) : Hs n f0 w (h ++ [bx]) := by
  have := hc.len
  refine ⟨by simp; omega, ?_, ?_, ?_, ?_⟩
  · rw [List.getElem?_append_left (by omega)]; exact hc.c6
  · rw [List.getElem?_append_left (by omega)]; exact hc.c7
  · rw [List.getElem?_append_left (by omega)]; exact hc.def_
  · rw [List.getElem?_append_left (by omega)]; exact hc.loop

structure HsT (n : Nat) (h : Heap) : Prop where
  c6 : h[n]? = some (.cells 0 [[.bool true]])
  def_ : h[n + 3]? = some .defer
  loop : ∃ tm, h[n + 4]? = some (.loop 19018 tm (.done .ret))

theorem f19_round (n : Nat) (f0 : Nat → AV) (w q : Int × Int) (h6 : f0 6 = .ref n 0 0 0) (h7 : f0 7 = .ref (n + 1) 0 0 0) (h : Heap) (hc : Hs n f0 w h) :
    ∃ t h', roundF (T prim23 prim36) (ev (T prim23 prim36)) ⟨n, none⟩ (n + 4) [valP q] h = some (.bool t, h') ∧ (q ≠ w ∧ t = true ∧ Hs n f0 w h' ∨ q = w ∧ t = false ∧ HsT n h') := by
  suffices hP : ∀ P : Bool → Heap → Prop, (∀ h', q ≠ w → Hs n f0 w h' → P true h') → (∀ h', q = w → HsT n h' → P false h') → ∃ t h', roundF (T prim23 prim36) (ev (T prim23 prim36)) ⟨n, none⟩ (n + 4) [valP q] h = some (.bool t, h') ∧ P t h' from
    hP _ (fun h' a b => .inl ⟨a, rfl, b⟩) (fun h' a b => .inr ⟨a, rfl, b⟩)
  intro P p0 p1
  have hlen := hc.len
  refine roundF_spec (ps := [18]) (asg := c19_a0) (body := c19_b0) hc.loop (by show n ≤ n + 4; omega) rfl rfl ?_
  rw [R_RK]
  simp only [c19_a0, List.zip_cons_cons, List.zip_nil_right, List.foldl_cons, List.foldl_nil]
  have s1 := st_new (wp := n) (h := h) (n := 2) (old := [.int .i64 0, .int .i64 0]) (x := valP q) (cs := encP q) (by omega) rfl rfl rfl rfl
  simp (disch := omega) only [RK_seq, RK_region0, RK_block, RK_cond, RK_skip, RK_ret, RK_exit, RE_seq, RE_seq_exit, RE_seq_ret, RE_block, RE_block_ret, RE_block_exit, RE_nil, RO_mv, RO_len, RO_bin, RO_binb, RO_un, RO_pick, RO_ixs, RO_fld, RO_part, RO_ixa, RO_ixv, RO_eqa, RO_eqn, RO_mx2, RO_mn2, RO_build2, RO_lit0, RO_lit1, RO_lit2, RO_mkfn0, RO_mkfn1, RO_cap, RO_slice_l, RO_slice_h, RO_slice_lh, RO_box, RO_alloc, RO_store, RO_clear, RO_callv0, RO_callv1, RO_callv2, RO_append, RO_load, RO_callf0, RO_callf1, RO_callf2, RO_callf3, RO_callf4, RO_guard, RO_nil, put_fr, opd_t, opd_c, upd_eq', upd_ne, ne_eq, ↓OM_some, ↓OM_none, ↓CM_bool, ↓CB_true, ↓CB_false, ↓GM_t, ↓GM_f, ↓GM_tup, OM_some, OM_none, CM_bool, CB_true, CB_false, GM_t, GM_f, GM_tup, reduceIte, reduceCtorEq, Nat.reduceLT, Nat.reduceEqDiff, not_false_eq_true, not_true_eq_false, bin_add, bin_sub, bin_mul, bin_eql, bin_neq, bin_lss, bin_leq, bin_gtr, bin_geq, bin_seql, bin_sneq, binb_eql, binb_neq, un_not, un_neg, pick_t, pick_f, mn_2, mx_2, len_nils, len_fs, len_row, eqa_2, bld2_int, lit2_int, decide_true, decide_false, Bool.not_true, Bool.not_false, Bool.false_eq_true, List.length_map, List.getD_cons_zero, List.getD_cons_succ, List.getD_nil, c19_a0_r0, s1]
  have hc1 := hc.push (.cells 0 [encP q])
  refine ⟨trivial, 19018, _, hc1.loop, ?_⟩
  generalize hh1 : h ++ [.cells 0 [encP q]] = h1 at *
  have hl1 : h1.length = h.length + 1 := by rw [← hh1]; simp
  have hbx : h1[h.length]? = some (.cells 0 [encP q]) := by rw [← hh1]; simp
  rw [R_RK]
  simp only [c19_b0]
  generalize hh2 : h1.set (n + 4) (.loop 19018 (mkfr 22 f0) .busy) = h2' at *
  have e0 : ∀ k, k ≠ n + 4 → h2'[k]? = h1[k]? := fun k hk => by rw [← hh2, List.getElem?_set_ne (Ne.symm hk)]
  have hl2 : h2'.length = h1.length := by rw [← hh2]; simp
  have eL : h2'[n + 4]? = some (.loop 19018 (mkfr 22 f0) .busy) := by rw [← hh2, List.getElem?_set_self (by omega)]
  have l1 : ldM h2' true 2 (.ref (n + 1) 0 0 0) = some (valP w) := ld_row (all := [encP w]) (by rw [e0 _ (by omega)]; exact hc1.c7) (j := 0) (cs := encP w) rfl partP
  have l2 : ldM h2' true 2 (.ref h.length 0 0 0) = some (valP q) := ld_row (all := [encP q]) (by rw [e0 _ (by omega)]; exact hbx) (j := 0) (cs := encP q) rfl partP
  have h6' : h2'[n]? = some (.cells 0 [[.bool false]]) := by rw [e0 n (by omega)]; exact hc1.c6
  by_cases hx : q = w
  · have st := st_cell (wp := n) (y := .bool true) h6' (Nat.le_refl _) rfl rfl
    simp (disch := omega) only [RK_seq, RK_region0, RK_block, RK_cond, RK_skip, RK_ret, RK_exit, RE_seq, RE_seq_exit, RE_seq_ret, RE_block, RE_block_ret, RE_block_exit, RE_nil, RO_mv, RO_len, RO_bin, RO_binb, RO_un, RO_pick, RO_ixs, RO_fld, RO_part, RO_ixa, RO_ixv, RO_eqa, RO_eqn, RO_mx2, RO_mn2, RO_build2, RO_lit0, RO_lit1, RO_lit2, RO_mkfn0, RO_mkfn1, RO_cap, RO_slice_l, RO_slice_h, RO_slice_lh, RO_box, RO_alloc, RO_store, RO_clear, RO_callv0, RO_callv1, RO_callv2, RO_append, RO_load, RO_callf0, RO_callf1, RO_callf2, RO_callf3, RO_callf4, RO_guard, RO_nil, put_fr, opd_t, opd_c, upd_eq', upd_ne, ne_eq, ↓OM_some, ↓OM_none, ↓CM_bool, ↓CB_true, ↓CB_false, ↓GM_t, ↓GM_f, ↓GM_tup, OM_some, OM_none, CM_bool, CB_true, CB_false, GM_t, GM_f, GM_tup, reduceIte, reduceCtorEq, Nat.reduceLT, Nat.reduceEqDiff, not_false_eq_true, not_true_eq_false, bin_add, bin_sub, bin_mul, bin_eql, bin_neq, bin_lss, bin_leq, bin_gtr, bin_geq, bin_seql, bin_sneq, binb_eql, binb_neq, un_not, un_neg, pick_t, pick_f, mn_2, mx_2, len_nils, len_fs, len_row, eqa_2, bld2_int, lit2_int, decide_true, decide_false, Bool.not_true, Bool.not_false, Bool.false_eq_true, List.length_map, List.getD_cons_zero, List.getD_cons_succ, List.getD_nil, c19_b0_r0, c19_b0_r1, h6, h7, l1, l2, eqP, hx, st]
    refine ⟨19018, mkfr 22 f0, .busy, by rw [List.getElem?_set_ne (by omega)]; exact eL, p1 _ hx ⟨?_, ?_, ?_⟩⟩
    · rw [List.getElem?_set_ne (by omega), List.getElem?_set_self (by omega)]
    · rw [List.getElem?_set_ne (by omega), List.getElem?_set_ne (by omega), e0 _ (by omega)]; exact hc1.def_
    · exact ⟨_, by rw [List.getElem?_set_self (by simp; omega)]⟩
  · simp (disch := omega) only [RK_seq, RK_region0, RK_block, RK_cond, RK_skip, RK_ret, RK_exit, RE_seq, RE_seq_exit, RE_seq_ret, RE_block, RE_block_ret, RE_block_exit, RE_nil, RO_mv, RO_len, RO_bin, RO_binb, RO_un, RO_pick, RO_ixs, RO_fld, RO_part, RO_ixa, RO_ixv, RO_eqa, RO_eqn, RO_mx2, RO_mn2, RO_build2, RO_lit0, RO_lit1, RO_lit2, RO_mkfn0, RO_mkfn1, RO_cap, RO_slice_l, RO_slice_h, RO_slice_lh, RO_box, RO_alloc, RO_store, RO_clear, RO_callv0, RO_callv1, RO_callv2, RO_append, RO_load, RO_callf0, RO_callf1, RO_callf2, RO_callf3, RO_callf4, RO_guard, RO_nil, put_fr, opd_t, opd_c, upd_eq', upd_ne, ne_eq, ↓OM_some, ↓OM_none, ↓CM_bool, ↓CB_true, ↓CB_false, ↓GM_t, ↓GM_f, ↓GM_tup, OM_some, OM_none, CM_bool, CB_true, CB_false, GM_t, GM_f, GM_tup, reduceIte, reduceCtorEq, Nat.reduceLT, Nat.reduceEqDiff, not_false_eq_true, not_true_eq_false, bin_add, bin_sub, bin_mul, bin_eql, bin_neq, bin_lss, bin_leq, bin_gtr, bin_geq, bin_seql, bin_sneq, binb_eql, binb_neq, un_not, un_neg, pick_t, pick_f, mn_2, mx_2, len_nils, len_fs, len_row, eqa_2, bld2_int, lit2_int, decide_true, decide_false, Bool.not_true, Bool.not_false, Bool.false_eq_true, List.length_map, List.getD_cons_zero, List.getD_cons_succ, List.getD_nil, c19_b0_r0, h7, l1, l2, eqP, hx]
    refine ⟨19018, mkfr 22 f0, .busy, eL, p0 _ hx ?_⟩
    simp only []
    have : h2'.set (n + 4) (.loop 19018 (mkfr 22 f0) .ready) = h1 := by
      rw [← hh2, List.set_set]; exact set_self hc1.loop
    rw [this]
    exact hc1

theorem f19_spec {l : List (Int × Int)} {v : AV} (a b : Int) (hv : Fz v (l.map encP)) (hl : l.length < 4611686018427387904) (hw : cx.wp ≤ H.length) :
    callF (T prim23 prim36) (ev (T prim23 prim36)) cx 19 [v, .int .i64 a, .int .i64 b] H = some (.bool (decide (wantP a b ∈ goodL l)), H) := by
  refine callF_code2 (a := a19) rfl rfl hw (Nat.le_of_ble_eq_true rfl) rfl ?_
  simp only [a19, c19]
  have m1 : foldO1 mn2 [.int .i64 a, .int .i64 b] = some (.int .i64 (wantP a b).1) := by rw [mn_2]; rfl
  have m2 : foldO1 mx2 [.int .i64 a, .int .i64 b] = some (.int .i64 (wantP a b).2) := by rw [mx_2]; rfl
  generalize hwn : wantP a b = w at *
  have s1 := st_new (wp := H.length) (h := H ++ [.cells 0 [[.bool false]]]) (n := 2) (old := [.int .i64 0, .int .i64 0]) (x := .agg [.int .i64 w.1, .int .i64 w.2]) (cs := encP w) (by simp) rfl rfl rfl rfl
  have hl1 : (H ++ [Box.cells 0 [[AV.bool false]]]).length = H.length + 1 := by simp
  have hl2 : (H ++ [Box.cells 0 [[AV.bool false]]] ++ [Box.cells 0 [encP w]]).length = H.length + 2 := by simp
  have h22 := f22_spec (p23 := prim23) (p36 := prim36) (cx := ⟨H.length, none⟩) (H := H ++ [.cells 0 [[.bool false]]] ++ [.cells 0 [encP w]]) hv.cells (by simp)
  simp only [hl1] at s1
  rw [hl2] at h22
  simp (disch := omega) only [RK_seq, RK_region0, RK_block, RK_cond, RK_skip, RK_ret, RK_exit, RE_seq, RE_seq_exit, RE_seq_ret, RE_block, RE_block_ret, RE_block_exit, RE_nil, RO_mv, RO_len, RO_bin, RO_binb, RO_un, RO_pick, RO_ixs, RO_fld, RO_part, RO_ixa, RO_ixv, RO_eqa, RO_eqn, RO_mx2, RO_mn2, RO_build2, RO_lit0, RO_lit1, RO_lit2, RO_mkfn0, RO_mkfn1, RO_cap, RO_slice_l, RO_slice_h, RO_slice_lh, RO_box, RO_alloc, RO_store, RO_clear, RO_callv0, RO_callv1, RO_callv2, RO_append, RO_load, RO_callf0, RO_callf1, RO_callf2, RO_callf3, RO_callf4, RO_guard, RO_nil, put_fr, opd_t, opd_c, upd_eq', upd_ne, ne_eq, ↓OM_some, ↓OM_none, ↓CM_bool, ↓CB_true, ↓CB_false, ↓GM_t, ↓GM_f, ↓GM_tup, OM_some, OM_none, CM_bool, CB_true, CB_false, GM_t, GM_f, GM_tup, reduceIte, reduceCtorEq, Nat.reduceLT, Nat.reduceEqDiff, not_false_eq_true, not_true_eq_false, bin_add, bin_sub, bin_mul, bin_eql, bin_neq, bin_lss, bin_leq, bin_gtr, bin_geq, bin_seql, bin_sneq, binb_eql, binb_neq, un_not, un_neg, pick_t, pick_f, mn_2, mx_2, len_nils, len_fs, len_row, eqa_2, bld2_int, lit2_int, decide_true, decide_false, Bool.not_true, Bool.not_false, Bool.false_eq_true, List.length_map, List.getD_cons_zero, List.getD_cons_succ, List.getD_nil, c19_r0, c19_r1, c19_r2, m1, m2, hl1, s1, h22]
  generalize hf0 : (upd' _ 17 (AV.fn 39 [AV.ref (H.length + 2) 0 0 0])) = f0
  have g6 : f0 6 = .ref H.length 0 0 0 := by rw [← hf0]; simp [upd']
  have g7 : f0 7 = .ref (H.length + 1) 0 0 0 := by rw [← hf0]; simp [upd']
  have g17 : opd (mkfr 22 f0) (.t 17) = .fn 39 [.ref (H.length + 2) 0 0 0] := by rw [opd_t (by decide), ← hf0]; simp [upd']
  rw [RK_rangef g17 rfl]
  have hl3 : (H ++ [Box.cells 0 [[AV.bool false]]] ++ [Box.cells 0 [encP w]] ++ [Box.cells 0 [[v]]]).length = H.length + 3 := by simp
  have hstart : Hs H.length f0 w (H ++ [Box.cells 0 [[AV.bool false]]] ++ [Box.cells 0 [encP w]] ++ [Box.cells 0 [[v]]] ++ [.defer] ++ [.loop 19018 (mkfr 22 f0) .ready]) := by
    refine ⟨by simp, ?_, ?_, ?_, ?_⟩ <;> simp [List.getElem?_append]
  obtain ⟨r, r1, r2⟩ := f39_spec (p23 := prim23) (p36 := prim36) (H.length + 4) (H.length + 2) l v (fun d h => Hs H.length f0 w h ∧ w ∉ d) (fun h => Hs H.length f0 w h ∧ w ∉ goodL l ∨ HsT H.length h ∧ w ∈ goodL l) H.length hl (fun d h bx hc => ⟨hc.1.push bx, hc.2⟩) (fun d h _ => hv.sl (lensP _) h) (fun d h hc => by have := hc.1.len; omega)
    (fun d q h hc hp => by
      obtain ⟨t, h', q1, q2⟩ := f19_round H.length f0 w q g6 g7 h hc.1
      refine ⟨t, h', q1, ?_, ?_⟩
      · intro ht
        rcases q2 with ⟨a1, a2, a3⟩ | ⟨a1, a2, a3⟩
        · exact ⟨a3, by simp [hc.2, Ne.symm a1]⟩
        · rw [a2] at ht; cases ht
      · intro ht
        rcases q2 with ⟨a1, a2, a3⟩ | ⟨a1, a2, a3⟩
        · rw [a2] at ht; cases ht
        · exact .inr ⟨a3, by
            rw [← a1]
            exact hp.subset (by simp)⟩)
    (fun h hc => .inl hc) ⟨hstart, by simp⟩ (by
      refine ld_cell ?_
      simp [List.getElem?_append])
  rw [hl3, r1]
  rcases r2 with ⟨k1, k2⟩ | ⟨k1, k2⟩
  · have hk := k1.len
    have st := st_cell (wp := H.length) (y := .bool false) (h := r.2.set (H.length + 4) .dead) (i := H.length) (x := .bool false) (by rw [List.getElem?_set_ne (by omega)]; exact k1.c6) (Nat.le_refl _) rfl rfl
    have e1 : (r.2.set (H.length + 4) .dead).set H.length (.cells 0 [[.bool false]]) = r.2.set (H.length + 4) .dead := set_self (by rw [List.getElem?_set_ne (by omega)]; exact k1.c6)
    rw [e1] at st
    have hkill : killAll H.length (r.2.set (H.length + 4) .dead) [H.length + 3] = some ((r.2.set (H.length + 4) .dead).set (H.length + 3) .dead) := by
      simp only [killAll]
      rw [if_pos (by omega), List.getElem?_set_ne (by omega), k1.def_]
    simp (disch := omega) only [RK_seq, RK_region0, RK_block, RK_cond, RK_skip, RK_ret, RK_exit, RE_seq, RE_seq_exit, RE_seq_ret, RE_block, RE_block_ret, RE_block_exit, RE_nil, RO_mv, RO_len, RO_bin, RO_binb, RO_un, RO_pick, RO_ixs, RO_fld, RO_part, RO_ixa, RO_ixv, RO_eqa, RO_eqn, RO_mx2, RO_mn2, RO_build2, RO_lit0, RO_lit1, RO_lit2, RO_mkfn0, RO_mkfn1, RO_cap, RO_slice_l, RO_slice_h, RO_slice_lh, RO_box, RO_alloc, RO_store, RO_clear, RO_callv0, RO_callv1, RO_callv2, RO_append, RO_load, RO_callf0, RO_callf1, RO_callf2, RO_callf3, RO_callf4, RO_guard, RO_nil, put_fr, opd_t, opd_c, upd_eq', upd_ne, ne_eq, ↓OM_some, ↓OM_none, ↓CM_bool, ↓CB_true, ↓CB_false, ↓GM_t, ↓GM_f, ↓GM_tup, OM_some, OM_none, CM_bool, CB_true, CB_false, GM_t, GM_f, GM_tup, reduceIte, reduceCtorEq, Nat.reduceLT, Nat.reduceEqDiff, not_false_eq_true, not_true_eq_false, bin_add, bin_sub, bin_mul, bin_eql, bin_neq, bin_lss, bin_leq, bin_gtr, bin_geq, bin_seql, bin_sneq, binb_eql, binb_neq, un_not, un_neg, pick_t, pick_f, mn_2, mx_2, len_nils, len_fs, len_row, eqa_2, bld2_int, lit2_int, decide_true, decide_false, Bool.not_true, Bool.not_false, Bool.false_eq_true, List.length_map, List.getD_cons_zero, List.getD_cons_succ, List.getD_nil, endLoop_ready k1.loop, c19_r3, g6, st, FinQ_retd, hkill]
    rw [res_cell (N := 22) (t := 6) (x := .bool false) (by decide) g6 (by
      have := ld_cell (h := (r.2.set (H.length + 4) .dead).set (H.length + 3) .dead) (i := H.length) (x := .bool false) (by rw [List.getElem?_set_ne (by omega), List.getElem?_set_ne (by omega)]; exact k1.c6)
      exact this)]
    simp [OM, k2]
  · obtain ⟨tm, hlp⟩ := k1.loop
    have hk : H.length + 4 < r.2.length := (List.getElem?_eq_some_iff.1 hlp).1
    have hend : endLoop (H.length + 3 + 1) r.2 ⟨mkfr 22 f0, [H.length + 3], H ++ [Box.cells 0 [[AV.bool false]]] ++ [Box.cells 0 [encP w]] ++ [Box.cells 0 [[v]]]⟩ = some (.ret, ⟨mkfr 22 f0, [H.length + 3], r.2.set (H.length + 4) .dead⟩) := by
      simp [endLoop, hlp]
    have hkill : killAll H.length (r.2.set (H.length + 4) .dead) [H.length + 3] = some ((r.2.set (H.length + 4) .dead).set (H.length + 3) .dead) := by
      simp only [killAll]
      rw [if_pos (by omega), List.getElem?_set_ne (by omega), k1.def_]
    simp (disch := omega) only [RK_seq, RK_region0, RK_block, RK_cond, RK_skip, RK_ret, RK_exit, RE_seq, RE_seq_exit, RE_seq_ret, RE_block, RE_block_ret, RE_block_exit, RE_nil, RO_mv, RO_len, RO_bin, RO_binb, RO_un, RO_pick, RO_ixs, RO_fld, RO_part, RO_ixa, RO_ixv, RO_eqa, RO_eqn, RO_mx2, RO_mn2, RO_build2, RO_lit0, RO_lit1, RO_lit2, RO_mkfn0, RO_mkfn1, RO_cap, RO_slice_l, RO_slice_h, RO_slice_lh, RO_box, RO_alloc, RO_store, RO_clear, RO_callv0, RO_callv1, RO_callv2, RO_append, RO_load, RO_callf0, RO_callf1, RO_callf2, RO_callf3, RO_callf4, RO_guard, RO_nil, put_fr, opd_t, opd_c, upd_eq', upd_ne, ne_eq, ↓OM_some, ↓OM_none, ↓CM_bool, ↓CB_true, ↓CB_false, ↓GM_t, ↓GM_f, ↓GM_tup, OM_some, OM_none, CM_bool, CB_true, CB_false, GM_t, GM_f, GM_tup, reduceIte, reduceCtorEq, Nat.reduceLT, Nat.reduceEqDiff, not_false_eq_true, not_true_eq_false, bin_add, bin_sub, bin_mul, bin_eql, bin_neq, bin_lss, bin_leq, bin_gtr, bin_geq, bin_seql, bin_sneq, binb_eql, binb_neq, un_not, un_neg, pick_t, pick_f, mn_2, mx_2, len_nils, len_fs, len_row, eqa_2, bld2_int, lit2_int, decide_true, decide_false, Bool.not_true, Bool.not_false, Bool.false_eq_true, List.length_map, List.getD_cons_zero, List.getD_cons_succ, List.getD_nil, hend, FinQ_retd, hkill]
    rw [res_cell (N := 22) (t := 6) (x := .bool true) (by decide) g6 (by
      have := ld_cell (h := (r.2.set (H.length + 4) .dead).set (H.length + 3) .dead) (i := H.length) (x := .bool true) (by rw [List.getElem?_set_ne (by omega), List.getElem?_set_ne (by omega)]; exact k1.c6)
      exact this)]
    simp [OM, k2]
end Go.Proofs.Tryt17A
end

section
namespace Go.Proofs.Tryt17A
open Go Go.AM
set_option linter.unusedSimpArgs false
set_option linter.unusedVariables false
variable {cx : Ctx} {H : Heap}

/-- As OwE, the row's box told. -/
def OwI (z wp : Nat) (h : Heap) (v : AV) (es : List (List AV)) (i : Nat) : Prop := (v = .nils ∧ es = []) ∨ v = .fs es true ∨ Ow z wp h v es i
theorem OwI.e {z wp : Nat} {h : Heap} {v : AV} {es : List (List AV)} {i : Nat} (ho : OwI z wp h v es i) : OwE z wp h v es := by
  rcases ho with h1 | h1 | h1
  · exact .inl h1
  · exact .inr (.inl h1)
  · exact .inr (.inr ⟨i, h1⟩)
theorem OwI.of {z wp : Nat} {h h' : Heap} {v : AV} {es : List (List AV)} {i : Nat} (ho : OwI z wp h v es i) (he : i < h.length → h'[i]? = h[i]?) : OwI z wp h' v es i := by
  rcases ho with h1 | h1 | h1
  · exact .inl h1
  · exact .inr (.inl h1)
  · exact .inr (.inr (Go.AM.Ow.of h1 (he (Go.AM.Ow.lt h1))))
theorem ap_i {wp : Nat} {h : Heap} {z bytes : Nat} {s x : AV} {es new : List (List AV)} {i : Nat} (ho : OwI z wp h s es i) (hwp : wp ≤ h.length) (hes : ∀ e ∈ es, e.length = z) (hx : Sl z h x new) (hz : ∀ e ∈ new, e.length = z) (h1 : (es.length + new.length) * bytes ≤ maxLn) (h2 : es.length + new.length ≤ maxLn) :
    ∃ v h' i', apM wp h z bytes s x = some (v, h') ∧ OwI z wp h' v (es ++ new) i' ∧ (i' = i ∨ i' = h.length) ∧ h.length ≤ h'.length ∧ ∀ k, k < h.length → k ≠ i → h'[k]? = h[k]? := by
  have hall : ∀ e ∈ es ++ new, e.length = z := fun e he => (List.mem_append.1 he).elim (hes e) (hz e)
  rcases ho with ⟨rfl, rfl⟩ | rfl | ho
  · have := ap_new (wp := wp) (bytes := bytes) (s := .nils) (.inl rfl) hx (by simpa using h1) (by simpa using h2)
    by_cases hn : new = []
    · rw [if_pos hn] at this
      exact ⟨_, _, i, this, .inl ⟨rfl, by simpa using hn⟩, .inl rfl, Nat.le_refl _, fun _ _ _ => rfl⟩
    · rw [if_neg hn] at this
      exact ⟨_, _, h.length, this, .inr (.inr (by simpa using Own3.ow (H := h) (es := new) hwp hz)), .inr rfl, by simp, fun k hk _ => List.getElem?_append_left hk⟩
  · have := ap_fs (wp := wp) (bytes := bytes) hes hx h1 h2
    by_cases hn : new = []
    · rw [if_pos hn] at this
      exact ⟨_, _, i, this, .inr (.inl (by simp [hn])), .inl rfl, Nat.le_refl _, fun _ _ _ => rfl⟩
    · rw [if_neg hn] at this
      exact ⟨_, _, h.length, this, .inr (.inr (by simpa using Own3.ow (H := h) (es := es ++ new) hwp hall)), .inr rfl, by simp, fun k hk _ => List.getElem?_append_left hk⟩
  · obtain ⟨v, bx, a1, a2⟩ := ap_own (bytes := bytes) ho hx hz h1 h2
    exact ⟨_, _, i, a1, .inr (.inr a2), .inl rfl, by simp, fun k hk hne => List.getElem?_set_ne (Ne.symm hne)⟩

/-! ### Related -/
def coll (pl : List Int) (d : List (Int × Int)) : List Int := d.flatMap fun q => if decide (q.1 ∈ pl) || decide (q.2 ∈ pl) then [q.1, q.2] else []
theorem coll_snoc (pl : List Int) (d : List (Int × Int)) (q : Int × Int) : coll pl (d ++ [q]) = coll pl d ++ if decide (q.1 ∈ pl) || decide (q.2 ∈ pl) then [q.1, q.2] else [] := by
  simp only [coll, List.flatMap_append, List.flatMap_cons, List.flatMap_nil, List.append_nil]
theorem coll_len (pl : List Int) (d : List (Int × Int)) : (coll pl d).length ≤ 2 * d.length := by
  induction d with
  | nil => simp [coll]
  | cons q d ih =>
    have e : coll pl (q :: d) = (if decide (q.1 ∈ pl) || decide (q.2 ∈ pl) then [q.1, q.2] else []) ++ coll pl d := by simp only [coll, List.flatMap_cons]
    rw [e, List.length_append, List.length_cons]
    have : (if (decide (q.1 ∈ pl) || decide (q.2 ∈ pl)) = true then [q.1, q.2] else []).length ≤ 2 := by split <;> simp
    omega

/-- c: where the answer's variable lies; m: the copy's; r: the range's record. -/
structure Rl (n c m r : Nat) (f0 : Nat → AV) (pl : List Int) (own : AV) (jo : Nat) (d : List (Int × Int)) (h : Heap) : Prop where
  len : r < h.length
  def_ : ∃ e, e + 1 = r ∧ h[e]? = some .defer
  loop : h[r]? = some (.loop 11014 (mkfr 34 f0) .ready)
  ownc : h[m]? = some (.cells 0 [[own]])
  cpy : OwI 1 n h own (pl.map encI) jo
  out : ∃ sv io, h[c]? = some (.cells 0 [[sv]]) ∧ OwI 1 n h sv ((pl ++ coll pl d).map encI) io ∧ (io < c ∨ r < io)

theorem Rl.push {n c m r : Nat} {f0 : Nat → AV} {pl : List Int} {own : AV} {jo : Nat} {d : List (Int × Int)} {h : Heap} (hc : Rl n c m r f0 pl own jo d h) (bx : Box) : Rl n c m r f0 pl own jo d (h ++ [bx]) := by
  have hl := hc.len
  have le : ∀ {k : Nat} {x : Box}, h[k]? = some x → (h ++ [bx])[k]? = some x := fun {k x} hk => by
    rw [List.getElem?_append_left (List.getElem?_eq_some_iff.1 hk).1]; exact hk
  obtain ⟨e, e1, e2⟩ := hc.def_
  obtain ⟨sv, io, o1, o2, o3⟩ := hc.out
  exact ⟨by simp; omega, ⟨e, e1, le e2⟩, le hc.loop, le hc.ownc, OwI.of hc.cpy (fun hi => List.getElem?_append_left hi), sv, io, le o1, OwI.of o2 (fun hi => List.getElem?_append_left hi), o3⟩

theorem f11_round (n c m r : Nat) (f0 : Nat → AV) (pl : List Int) (hpl : pl.length ≤ 10000) (own : AV) (jo : Nat) (g5 : f0 5 = .ref c 0 0 0) (g6 : f0 6 = .ref m 0 0 0) (hn : n ≤ c) (hcj : c < jo) (hjr : jo < r) (hcm : c < m) (hmr : m + 1 < r) (d : List (Int × Int)) (q : Int × Int) (hd : d.length ≤ 10000) (h : Heap) (hc : Rl n c m r f0 pl own jo d h) :
    ∃ h', roundF (T prim23 prim36) (ev (T prim23 prim36)) ⟨n, none⟩ r [valP q] h = some (.bool true, h') ∧ Rl n c m r f0 pl own jo (d ++ [q]) h' := by
  suffices hP : ∀ P : Bool → Heap → Prop, (∀ h', Rl n c m r f0 pl own jo (d ++ [q]) h' → P true h') → ∃ t h', roundF (T prim23 prim36) (ev (T prim23 prim36)) ⟨n, none⟩ r [valP q] h = some (.bool t, h') ∧ P t h' by
    obtain ⟨t, h', h1, h2, h3⟩ := hP (fun t h' => t = true ∧ Rl n c m r f0 pl own jo (d ++ [q]) h') (fun h' hh => ⟨rfl, hh⟩)
    subst h2
    exact ⟨h', h1, h3⟩
  intro P p0
  have hlen := hc.len
  refine roundF_spec (ps := [14]) (asg := c11_a0) (body := c11_b0) hc.loop (by show n ≤ r; omega) rfl rfl ?_
  rw [R_RK]
  simp only [c11_a0, List.zip_cons_cons, List.zip_nil_right, List.foldl_cons, List.foldl_nil]
  have s1 := st_new (wp := n) (h := h) (n := 2) (old := [.int .i64 0, .int .i64 0]) (x := valP q) (cs := encP q) (by omega) rfl rfl rfl rfl
  simp (disch := omega) only [RK_seq, RK_region0, RK_block, RK_cond, RK_skip, RK_ret, RK_exit, RE_seq, RE_seq_exit, RE_seq_ret, RE_block, RE_block_ret, RE_block_exit, RE_nil, RO_mv, RO_len, RO_bin, RO_binb, RO_un, RO_pick, RO_ixs, RO_fld, RO_part, RO_ixa, RO_ixv, RO_eqa, RO_eqn, RO_mx2, RO_mn2, RO_build2, RO_lit0, RO_lit1, RO_lit2, RO_mkfn0, RO_mkfn1, RO_cap, RO_slice_l, RO_slice_h, RO_slice_lh, RO_box, RO_alloc, RO_store, RO_clear, RO_callv0, RO_callv1, RO_callv2, RO_append, RO_load, RO_callf0, RO_callf1, RO_callf2, RO_callf3, RO_callf4, RO_guard, RO_nil, put_fr, opd_t, opd_c, upd_eq', upd_ne, ne_eq, ↓OM_some, ↓OM_none, ↓CM_bool, ↓CB_true, ↓CB_false, ↓GM_t, ↓GM_f, ↓GM_tup, OM_some, OM_none, CM_bool, CB_true, CB_false, GM_t, GM_f, GM_tup, reduceIte, reduceCtorEq, Nat.reduceLT, Nat.reduceEqDiff, not_false_eq_true, not_true_eq_false, bin_add, bin_sub, bin_mul, bin_eql, bin_neq, bin_lss, bin_leq, bin_gtr, bin_geq, bin_seql, bin_sneq, binb_eql, binb_neq, un_not, un_neg, pick_t, pick_f, mn_2, mx_2, len_nils, len_fs, len_row, eqa_2, bld2_int, lit2_int, decide_true, decide_false, Bool.not_true, Bool.not_false, Bool.false_eq_true, List.length_map, List.getD_cons_zero, List.getD_cons_succ, List.getD_nil, c11_a0_r0, s1]
  have hc1 := hc.push (.cells 0 [encP q])
  refine ⟨trivial, 11014, _, hc1.loop, ?_⟩
  generalize hh1 : h ++ [.cells 0 [encP q]] = h1 at *
  have hl1 : h1.length = h.length + 1 := by rw [← hh1]; simp
  have hbx : h1[h.length]? = some (.cells 0 [encP q]) := by rw [← hh1]; simp
  rw [R_RK]
  simp only [c11_b0]
  generalize hh2 : h1.set r (.loop 11014 (mkfr 34 f0) .busy) = h2' at *
  have e0 : ∀ k, k ≠ r → h2'[k]? = h1[k]? := fun k hk => by rw [← hh2, List.getElem?_set_ne (Ne.symm hk)]
  have hl2 : h2'.length = h1.length := by rw [← hh2]; simp
  have eL : h2'[r]? = some (.loop 11014 (mkfr 34 f0) .busy) := by rw [← hh2, List.getElem?_set_self (by omega)]
  obtain ⟨sv, io, o1, o2, o3⟩ := hc1.out
  have P1 : Pt h2' (.ref h.length 0 0 0) (encP q) := Pt.ref (es := [encP q]) (rdRow_of (by rw [e0 _ (by omega)]; exact hbx)) (by simp)
  have a0 := P1.ixa0 (k := .i64) (len := 2) (z := 1) (by decide)
  have a1 := P1.ixa1 (k := .i64) (len := 2) (z := 1) (by decide) (by simp [encP])
  have l0 : ldM _ false 1 (elf 0 (.ref h.length 0 0 0)) = _ := P1.ldf (off := 0) (by simp) (ag := false) (n := 1)
  have l1 : ldM _ false 1 (elf 1 (.ref h.length 0 0 0)) = _ := P1.ldf (off := 1) (by simp [encP]) (ag := false) (n := 1)
  simp only [encP] at l0 l1
  rw [partP0] at l0
  rw [partP1] at l1
  have lo := ld_cell (h := h2') (i := m) (x := own) (by rw [e0 m (by omega)]; exact hc1.ownc)
  have ls := ld_cell (h := h2') (i := c) (x := sv) (by rw [e0 c (by omega)]; exact o1)
  have cp2 : OwI 1 n h2' own (pl.map encI) jo := OwI.of hc1.cpy (fun _ => e0 jo (by omega))
  have sop := OwE.sl (OwI.e cp2) (lensI _)
  have c0 := f32_spec (p23 := prim23) (p36 := prim36) (cx := ⟨n, some r⟩) pl q.1 own sop (by omega) (by show n ≤ _; omega)
  have c1 := f32_spec (p23 := prim23) (p36 := prim36) (cx := ⟨n, some r⟩) pl q.2 own sop (by omega) (by show n ≤ _; omega)
  have back : h2'.set r (.loop 11014 (mkfr 34 f0) .ready) = h1 := by rw [← hh2, List.set_set]; exact set_self hc1.loop
  have skip : (decide (q.1 ∈ pl) || decide (q.2 ∈ pl)) = false → ∀ f', RP r P .nrm ⟨mkfr 34 f', [], h2'⟩ := by
    intro hf f'
    refine ⟨11014, mkfr 34 f0, .busy, eL, p0 _ ?_⟩
    simp only []
    rw [back]
    have hcs : coll pl (d ++ [q]) = coll pl d := by rw [coll_snoc, hf]; simp
    exact ⟨hc1.len, hc1.def_, hc1.loop, hc1.ownc, hc1.cpy, sv, io, o1, by rw [hcs]; exact o2, o3⟩
  have put : (decide (q.1 ∈ pl) || decide (q.2 ∈ pl)) = true → ∃ v h3 h4, apM n h2' 1 8 sv (.fs [[.int .i64 q.1], [.int .i64 q.2]] true) = some (v, h3) ∧ stM n h3 1 (.ref c 0 0 0) v = some h4 ∧ ∀ f', RP r P .nrm ⟨mkfr 34 f', [], h4⟩ := by
    intro hf
    have hcs : coll pl (d ++ [q]) = coll pl d ++ [q.1, q.2] := by rw [coll_snoc, hf]; simp
    have o2' : OwI 1 n h2' sv ((pl ++ coll pl d).map encI) io := OwI.of o2 (fun _ => e0 io (by omega))
    have hlc := coll_len pl d
    obtain ⟨v, h3, i', b1, b2, b3, b4, b5⟩ := ap_i (bytes := 8) o2' (by omega) (lensI _) (lit2_sl (a := q.1) (b := q.2)) (lensI _) (mx8 (by simp only [List.length_map, List.length_append, List.length_cons, List.length_nil]; omega)) (mx1 (by simp only [List.length_map, List.length_append, List.length_cons, List.length_nil]; omega))
    have hv := OwE.cells (OwI.e b2)
    have hcc : h3[c]? = some (.cells 0 [[sv]]) := by rw [b5 c (by omega) (by omega), e0 c (by omega)]; exact o1
    refine ⟨v, h3, _, b1, st_cell hcc hn hv.1 hv.2, fun f' => ⟨11014, mkfr 34 f0, .busy, ?_, p0 _ ?_⟩⟩
    · simp only []
      rw [List.getElem?_set_ne (by omega), b5 r (by omega) (by omega)]; exact eL
    · simp only []
      obtain ⟨e, d1, d2⟩ := hc1.def_
      have hi' : i' < c ∨ r < i' := by rcases b3 with rfl | rfl <;> omega
      refine ⟨by simp; omega, ⟨e, d1, ?_⟩, ?_, ?_, ?_, v, i', ?_, ?_, hi'⟩
      · rw [List.getElem?_set_ne (by omega), List.getElem?_set_ne (by omega), b5 e (by omega) (by omega), e0 e (by omega)]; exact d2
      · rw [List.getElem?_set_self (by simp; omega)]
      · rw [List.getElem?_set_ne (by omega), List.getElem?_set_ne (by omega), b5 m (by omega) (by omega), e0 m (by omega)]; exact hc1.ownc
      · exact OwI.of cp2 (fun _ => by rw [List.getElem?_set_ne (by omega), List.getElem?_set_ne (by omega), b5 jo (by omega) (by omega)])
      · rw [List.getElem?_set_ne (by omega), List.getElem?_set_self (by omega)]
      · rw [hcs, ← List.append_assoc, List.map_append]
        exact OwI.of b2 (fun _ => by rw [List.getElem?_set_ne (by omega), List.getElem?_set_ne (by omega)])
  cases d0 : decide (q.1 ∈ pl)
  · cases d1 : decide (q.2 ∈ pl)
    · have := skip (by simp only [d0, d1, Bool.or_self])
      simp (disch := omega) only [RK_seq, RK_region0, RK_block, RK_cond, RK_skip, RK_ret, RK_exit, RE_seq, RE_seq_exit, RE_seq_ret, RE_block, RE_block_ret, RE_block_exit, RE_nil, RO_mv, RO_len, RO_bin, RO_binb, RO_un, RO_pick, RO_ixs, RO_fld, RO_part, RO_ixa, RO_ixv, RO_eqa, RO_eqn, RO_mx2, RO_mn2, RO_build2, RO_lit0, RO_lit1, RO_lit2, RO_mkfn0, RO_mkfn1, RO_cap, RO_slice_l, RO_slice_h, RO_slice_lh, RO_box, RO_alloc, RO_store, RO_clear, RO_callv0, RO_callv1, RO_callv2, RO_append, RO_load, RO_callf0, RO_callf1, RO_callf2, RO_callf3, RO_callf4, RO_guard, RO_nil, put_fr, opd_t, opd_c, upd_eq', upd_ne, ne_eq, ↓OM_some, ↓OM_none, ↓CM_bool, ↓CB_true, ↓CB_false, ↓GM_t, ↓GM_f, ↓GM_tup, OM_some, OM_none, CM_bool, CB_true, CB_false, GM_t, GM_f, GM_tup, reduceIte, reduceCtorEq, Nat.reduceLT, Nat.reduceEqDiff, not_false_eq_true, not_true_eq_false, bin_add, bin_sub, bin_mul, bin_eql, bin_neq, bin_lss, bin_leq, bin_gtr, bin_geq, bin_seql, bin_sneq, binb_eql, binb_neq, un_not, un_neg, pick_t, pick_f, mn_2, mx_2, len_nils, len_fs, len_row, eqa_2, bld2_int, lit2_int, decide_true, decide_false, Bool.not_true, Bool.not_false, Bool.false_eq_true, List.length_map, List.getD_cons_zero, List.getD_cons_succ, List.getD_nil, c11_b0_r0, g5, g6, lo, ls, a0, a1, l0, l1, c0, c1, d0, d1]
      exact this _
    · obtain ⟨v, h3, h4, b1, b2, b3⟩ := put (by simp only [d0, d1, Bool.or_true])
      simp (disch := omega) only [RK_seq, RK_region0, RK_block, RK_cond, RK_skip, RK_ret, RK_exit, RE_seq, RE_seq_exit, RE_seq_ret, RE_block, RE_block_ret, RE_block_exit, RE_nil, RO_mv, RO_len, RO_bin, RO_binb, RO_un, RO_pick, RO_ixs, RO_fld, RO_part, RO_ixa, RO_ixv, RO_eqa, RO_eqn, RO_mx2, RO_mn2, RO_build2, RO_lit0, RO_lit1, RO_lit2, RO_mkfn0, RO_mkfn1, RO_cap, RO_slice_l, RO_slice_h, RO_slice_lh, RO_box, RO_alloc, RO_store, RO_clear, RO_callv0, RO_callv1, RO_callv2, RO_append, RO_load, RO_callf0, RO_callf1, RO_callf2, RO_callf3, RO_callf4, RO_guard, RO_nil, put_fr, opd_t, opd_c, upd_eq', upd_ne, ne_eq, ↓OM_some, ↓OM_none, ↓CM_bool, ↓CB_true, ↓CB_false, ↓GM_t, ↓GM_f, ↓GM_tup, OM_some, OM_none, CM_bool, CB_true, CB_false, GM_t, GM_f, GM_tup, reduceIte, reduceCtorEq, Nat.reduceLT, Nat.reduceEqDiff, not_false_eq_true, not_true_eq_false, bin_add, bin_sub, bin_mul, bin_eql, bin_neq, bin_lss, bin_leq, bin_gtr, bin_geq, bin_seql, bin_sneq, binb_eql, binb_neq, un_not, un_neg, pick_t, pick_f, mn_2, mx_2, len_nils, len_fs, len_row, eqa_2, bld2_int, lit2_int, decide_true, decide_false, Bool.not_true, Bool.not_false, Bool.false_eq_true, List.length_map, List.getD_cons_zero, List.getD_cons_succ, List.getD_nil, c11_b0_r0, c11_b0_r1, g5, g6, lo, ls, a0, a1, l0, l1, c0, c1, d0, d1, b1, b2]
      exact b3 _
  · obtain ⟨v, h3, h4, b1, b2, b3⟩ := put (by simp only [d0, Bool.true_or])
    simp (disch := omega) only [RK_seq, RK_region0, RK_block, RK_cond, RK_skip, RK_ret, RK_exit, RE_seq, RE_seq_exit, RE_seq_ret, RE_block, RE_block_ret, RE_block_exit, RE_nil, RO_mv, RO_len, RO_bin, RO_binb, RO_un, RO_pick, RO_ixs, RO_fld, RO_part, RO_ixa, RO_ixv, RO_eqa, RO_eqn, RO_mx2, RO_mn2, RO_build2, RO_lit0, RO_lit1, RO_lit2, RO_mkfn0, RO_mkfn1, RO_cap, RO_slice_l, RO_slice_h, RO_slice_lh, RO_box, RO_alloc, RO_store, RO_clear, RO_callv0, RO_callv1, RO_callv2, RO_append, RO_load, RO_callf0, RO_callf1, RO_callf2, RO_callf3, RO_callf4, RO_guard, RO_nil, put_fr, opd_t, opd_c, upd_eq', upd_ne, ne_eq, ↓OM_some, ↓OM_none, ↓CM_bool, ↓CB_true, ↓CB_false, ↓GM_t, ↓GM_f, ↓GM_tup, OM_some, OM_none, CM_bool, CB_true, CB_false, GM_t, GM_f, GM_tup, reduceIte, reduceCtorEq, Nat.reduceLT, Nat.reduceEqDiff, not_false_eq_true, not_true_eq_false, bin_add, bin_sub, bin_mul, bin_eql, bin_neq, bin_lss, bin_leq, bin_gtr, bin_geq, bin_seql, bin_sneq, binb_eql, binb_neq, un_not, un_neg, pick_t, pick_f, mn_2, mx_2, len_nils, len_fs, len_row, eqa_2, bld2_int, lit2_int, decide_true, decide_false, Bool.not_true, Bool.not_false, Bool.false_eq_true, List.length_map, List.getD_cons_zero, List.getD_cons_succ, List.getD_nil, c11_b0_r0, c11_b0_r1, g5, g6, lo, ls, a0, a1, l0, l1, c0, c1, d0, b1, b2]
    exact b3 _

def rlL (l : List (Int × Int)) (to : List Int) : List Int := plL (plL to ++ coll (plL to) (goodL l))

theorem plL_len (to : List Int) : (plL to).length ≤ to.length := by
  have := dd_lenI (sortI (to.filter fun x => !decide (x < 0))) (sortI (to.filter fun x => !decide (x < 0))).length
  have h2 := (sortI_perm (to.filter fun x => !decide (x < 0))).length_eq
  have h3 : (to.filter fun x => !decide (x < 0)).length ≤ to.length := List.length_filter_le _ _
  unfold plL
  omega

theorem clone_OwI {v : AV} {l : List Int} (hs : Sl 1 H v (l.map encI)) (hl : l.length ≤ 100000) (hw : cx.wp ≤ H.length) :
    ∃ r, callF (T prim23 prim36) (ev (T prim23 prim36)) cx 33 [v] H = some r ∧ OwI 1 cx.wp r.2 r.1 (l.map encI) H.length ∧ H.length ≤ r.2.length ∧ r.2.length ≤ H.length + 1 ∧ ∀ k, k < H.length → r.2[k]? = H[k]? := by
  rcases isNil_cases hs with ⟨rfl, h0⟩ | hn
  · exact ⟨_, clone_nilI hw, .inl ⟨rfl, h0⟩, Nat.le_refl _, Nat.le_succ _, fun _ _ => rfl⟩
  · have := clone_specI (p23 := prim23) (p36 := prim36) hs hn (mx8 (by omega)) hw
    by_cases h0 : l = []
    · rw [if_pos h0] at this
      exact ⟨_, this, .inr (.inl (by simp [h0])), Nat.le_refl _, Nat.le_succ _, fun _ _ => rfl⟩
    · rw [if_neg h0] at this
      exact ⟨_, this, .inr (.inr (by simpa using Own3.ow (H := H) (es := l.map encI) hw (lensI l))), by simp, by simp, fun k hk => List.getElem?_append_left hk⟩

end Go.Proofs.Tryt17A
end

section
namespace Go.Proofs.Tryt17A
open Go Go.AM
set_option linter.unusedSimpArgs false
set_option linter.unusedVariables false
variable {cx : Ctx} {H : Heap}

theorem leave2_OwnK {es : List (List AV)} {z lb D : Nat} {h0 h1 : Heap} {r : AV × Heap} (ho : Own3 z h1 es r) (hl : lb ≤ h1.length) (hD : D < h1.length) (hu : ∀ e ∈ es, ∀ c ∈ e, AV.under lb c = true) : ∃ u, leave 2 lb h0 (r.2.set D .dead) r.1 = some (u, h0) ∧ Fz u es := by
  rcases ho with ⟨e0, h1 | h1, _⟩ | rfl
  · rw [h1]; exact ⟨_, leave2 rfl, .inl ⟨rfl, e0⟩⟩
  · rw [h1]; exact ⟨_, leave2 rfl, .inr ⟨true, by rw [e0]⟩⟩
  · exact ⟨_, leave2_row hl (by
      simp only [rdEls, rdRow]
      rw [List.getElem?_set_ne (by omega)]
      simp) hu, .inr ⟨false, rfl⟩⟩

theorem f11_spec {l : List (Int × Int)} {to : List Int} {v u : AV} (hv : Fz v (l.map encP)) (hu : Sl 1 H u (to.map encI)) (hl : l.length ≤ 5000) (htl : to.length ≤ 5000) (hw : cx.wp ≤ H.length) :
    ∃ r, callF (T prim23 prim36) (ev (T prim23 prim36)) cx 11 [v, u] H = some (r, H) ∧ Fz r ((rlL l to).map encI) := by
  refine pure_of (callF_codeE (a := a11) rfl hw (Nat.le_of_ble_eq_true rfl) ?_)
  simp only [a11, c11, Ctx.enter]
  obtain ⟨r, p1, p2⟩ := f12_spec (cx := ⟨H.length, none⟩) hu (mx8 (by omega)) (Nat.le_refl _)
  have po := own3_old p2
  have hr1 : r.1.cells = some [r.1] ∧ r.1.one = true := by rcases p2 with ⟨_, h1 | h1, _⟩ | h1 <;> rw [h1] <;> exact ⟨rfl, rfl⟩
  have plen := plL_len to
  obtain ⟨c, hcd⟩ : ∃ c, r.2.length = c := ⟨_, rfl⟩
  have s1 := st_new (wp := H.length) (h := r.2) (n := 1) (old := [.nils]) (x := r.1) (cs := [r.1]) po.1 hr1.1 rfl (by simp [hr1.2]) rfl
  have l1 : ldM (r.2 ++ [.cells 0 [[r.1]]]) false 1 (.ref r.2.length 0 0 0) = some r.1 := by rw [ld_new]; exact part1
  have sl1 : Sl 1 (r.2 ++ [.cells 0 [[r.1]]]) r.1 ((plL to).map encI) := by
    rcases p2 with ⟨h0, h1 | h1, _⟩ | rfl
    · rw [h1, h0]; exact .nils
    · rw [h1, h0]; exact .fs (by simp)
    · exact Go.AM.Ow.sl (Go.AM.Ow.of (Own3.ow (wp := 0) (Nat.zero_le _) (lensI _)) (by rw [List.getElem?_append_left (by simp)]))
  obtain ⟨r', q1, q2, q3, q4, q5⟩ := clone_OwI (cx := ⟨H.length, none⟩) (H := r.2 ++ [.cells 0 [[r.1]]]) sl1 (by omega) (by simp; omega)
  have hr2 := OwE.cells (OwI.e q2)
  have s2 := st_new (wp := H.length) (h := r'.2) (n := 1) (old := [.nils]) (x := r'.1) (cs := [r'.1]) (by simp at q3; omega) hr2.1 rfl (by simp [hr2.2]) rfl
  have h22 := f22_spec (p23 := prim23) (p36 := prim36) (cx := ⟨H.length, none⟩) (H := r'.2 ++ [.cells 0 [[r'.1]]]) hv.cells (by simp at q3 ⊢; omega)
  simp (disch := omega) only [RK_seq, RK_region0, RK_block, RK_cond, RK_skip, RK_ret, RK_exit, RE_seq, RE_seq_exit, RE_seq_ret, RE_block, RE_block_ret, RE_block_exit, RE_nil, RO_mv, RO_len, RO_bin, RO_binb, RO_un, RO_pick, RO_ixs, RO_fld, RO_part, RO_ixa, RO_ixv, RO_eqa, RO_eqn, RO_mx2, RO_mn2, RO_build2, RO_lit0, RO_lit1, RO_lit2, RO_mkfn0, RO_mkfn1, RO_cap, RO_slice_l, RO_slice_h, RO_slice_lh, RO_box, RO_alloc, RO_store, RO_clear, RO_callv0, RO_callv1, RO_callv2, RO_append, RO_load, RO_callf0, RO_callf1, RO_callf2, RO_callf3, RO_callf4, RO_guard, RO_nil, put_fr, opd_t, opd_c, upd_eq', upd_ne, ne_eq, ↓OM_some, ↓OM_none, ↓CM_bool, ↓CB_true, ↓CB_false, ↓GM_t, ↓GM_f, ↓GM_tup, OM_some, OM_none, CM_bool, CB_true, CB_false, GM_t, GM_f, GM_tup, reduceIte, reduceCtorEq, Nat.reduceLT, Nat.reduceEqDiff, not_false_eq_true, not_true_eq_false, bin_add, bin_sub, bin_mul, bin_eql, bin_neq, bin_lss, bin_leq, bin_gtr, bin_geq, bin_seql, bin_sneq, binb_eql, binb_neq, un_not, un_neg, pick_t, pick_f, mn_2, mx_2, len_nils, len_fs, len_row, eqa_2, bld2_int, lit2_int, decide_true, decide_false, Bool.not_true, Bool.not_false, Bool.false_eq_true, List.length_map, List.getD_cons_zero, List.getD_cons_succ, List.getD_nil, c11_r0, c11_r1, c11_r2, c11_r3, p1, s1, l1, q1, s2, h22]
  obtain ⟨m, hmd⟩ : ∃ m, r'.2.length = m := ⟨_, rfl⟩
  have hlm : (r'.2 ++ [Box.cells 0 [[r'.1]]]).length = m + 1 := by simp [hmd]
  rw [hlm, hmd, hcd]
  have hcm : c + 1 ≤ m := by simp [hcd, hmd] at q3; omega
  have hnc : H.length ≤ c := by omega
  generalize hf0 : (upd' _ 13 (AV.fn 39 [AV.ref (m + 1) 0 0 0])) = f0
  have g5 : f0 5 = .ref c 0 0 0 := by rw [← hf0]; simp [upd']
  have g6 : f0 6 = .ref m 0 0 0 := by rw [← hf0]; simp [upd']
  have g13 : opd (mkfr 34 f0) (.t 13) = .fn 39 [.ref (m + 1) 0 0 0] := by rw [opd_t (by decide), ← hf0]; simp [upd']
  rw [RK_rangef g13 rfl]
  have hl3 : (r'.2 ++ [Box.cells 0 [[r'.1]]] ++ [Box.cells 0 [[v]]]).length = m + 2 := by simp [hmd]
  have atc : r'.2[c]? = some (.cells 0 [[r.1]]) := by
    rw [q5 c (by simp; omega)]
    rw [List.getElem?_append_right (by omega)]
    simp [hcd]
  have hstart : Rl H.length c m (m + 3) f0 (plL to) r'.1 (c + 1) [] (r'.2 ++ [Box.cells 0 [[r'.1]]] ++ [Box.cells 0 [[v]]] ++ [.defer] ++ [.loop 11014 (mkfr 34 f0) .ready]) := by
    have le : ∀ {k : Nat}, k < m → (r'.2 ++ [Box.cells 0 [[r'.1]]] ++ [Box.cells 0 [[v]]] ++ [.defer] ++ [.loop 11014 (mkfr 34 f0) .ready])[k]? = r'.2[k]? := fun {k} hk => by
      simp only [List.append_assoc]
      rw [List.getElem?_append_left (by omega)]
    refine ⟨by simp [hmd], ⟨m + 2, rfl, ?_⟩, ?_, ?_, ?_, ?_⟩
    · simp [List.getElem?_append, hmd]
    · simp [List.getElem?_append, hmd]
    · simp [List.getElem?_append, hmd]
    · have e : (r.2 ++ [Box.cells 0 [[r.1]]]).length = c + 1 := by simp [hcd]
      rw [e] at q2
      exact OwI.of q2 (fun hi => le (by omega))
    · rcases p2 with ⟨h0, h1, _⟩ | hrow
      · refine ⟨r.1, m + 4, by rw [le (by omega)]; exact atc, ?_, .inr (by omega)⟩
        rcases h1 with h1 | h1
        · exact .inl ⟨h1, by simpa [coll] using h0⟩
        · exact .inr (.inl (by rw [h1]; simp [coll]; simpa using h0))
      · have hcn : c = H.length + 1 := by rw [← hcd, hrow]; simp
        refine ⟨r.1, H.length, by rw [le (by omega)]; exact atc, .inr (.inr ?_), .inl (by omega)⟩
        have o1 : Ow 1 H.length (H ++ [.cells 0 ((plL to).map encI)]) (.row H.length 0 0 ((plL to).map encI).length ((plL to).map encI).length 1) ((plL to).map encI) H.length := Own3.ow (Nat.le_refl _) (lensI _)
        have : Ow 1 H.length r.2 r.1 ((plL to).map encI) H.length := by rw [hrow]; exact o1
        have := Go.AM.Ow.of this (h' := (r'.2 ++ [Box.cells 0 [[r'.1]]] ++ [Box.cells 0 [[v]]] ++ [.defer] ++ [.loop 11014 (mkfr 34 f0) .ready])) (by rw [le (by omega), q5 _ (by simp; omega), List.getElem?_append_left (by omega)])
        simpa [coll] using this
  have gl := goodL_len l
  obtain ⟨x, r1, r2⟩ := f39_spec (p23 := prim23) (p36 := prim36) (m + 3) (m + 1) l v (Rl H.length c m (m + 3) f0 (plL to) r'.1 (c + 1)) (Rl H.length c m (m + 3) f0 (plL to) r'.1 (c + 1) (goodL l)) H.length (by omega) (fun d h bx hc => hc.push bx) (fun d h _ => hv.sl (lensP _) h) (fun d h hc => by have := hc.len; omega)
    (fun d q h hc hp => by
      have hdl : d.length ≤ 10000 := by have := hp.length_le; simp at this; omega
      obtain ⟨h', a1, a2⟩ := f11_round H.length c m (m + 3) f0 (plL to) (by omega) r'.1 (c + 1) g5 g6 hnc (by omega) (by omega) (by omega) (by omega) d q hdl h hc
      exact ⟨true, h', a1, fun _ => a2, fun e => by cases e⟩)
    (fun h hc => hc) hstart (by
      refine ld_cell ?_
      simp [List.getElem?_append, hmd])
  rw [hl3, r1]
  have hlx := r2.len
  obtain ⟨sv, io, o1, o2, o3⟩ := r2.out
  obtain ⟨e, e1, e2⟩ := r2.def_
  have he : e = m + 2 := by omega
  subst he
  have ls := ld_cell (h := x.2.set (m + 3) .dead) (i := c) (x := sv) (by rw [List.getElem?_set_ne (by omega)]; exact o1)
  have o2' : OwI 1 H.length (x.2.set (m + 3) .dead) sv ((plL to ++ coll (plL to) (goodL l)).map encI) io := OwI.of o2 (fun _ => by rw [List.getElem?_set_ne (by omega)])
  have hcl := coll_len (plL to) (goodL l)
  obtain ⟨y, y1, y2⟩ := f12_spec (cx := ⟨H.length, none⟩) (H := x.2.set (m + 3) .dead) (OwE.sl (OwI.e o2') (lensI _)) (mx8 (by simp; omega)) (by simp; omega)
  have hy := own3_old y2
  have hkill : killAll H.length y.2 [m + 2] = some (y.2.set (m + 2) .dead) := by
    simp only [killAll]
    rw [if_pos (by omega), hy.2 _ (by simp; omega), List.getElem?_set_ne (by omega), e2]
  simp (disch := omega) only [RK_seq, RK_region0, RK_block, RK_cond, RK_skip, RK_ret, RK_exit, RE_seq, RE_seq_exit, RE_seq_ret, RE_block, RE_block_ret, RE_block_exit, RE_nil, RO_mv, RO_len, RO_bin, RO_binb, RO_un, RO_pick, RO_ixs, RO_fld, RO_part, RO_ixa, RO_ixv, RO_eqa, RO_eqn, RO_mx2, RO_mn2, RO_build2, RO_lit0, RO_lit1, RO_lit2, RO_mkfn0, RO_mkfn1, RO_cap, RO_slice_l, RO_slice_h, RO_slice_lh, RO_box, RO_alloc, RO_store, RO_clear, RO_callv0, RO_callv1, RO_callv2, RO_append, RO_load, RO_callf0, RO_callf1, RO_callf2, RO_callf3, RO_callf4, RO_guard, RO_nil, put_fr, opd_t, opd_c, upd_eq', upd_ne, ne_eq, ↓OM_some, ↓OM_none, ↓CM_bool, ↓CB_true, ↓CB_false, ↓GM_t, ↓GM_f, ↓GM_tup, OM_some, OM_none, CM_bool, CB_true, CB_false, GM_t, GM_f, GM_tup, reduceIte, reduceCtorEq, Nat.reduceLT, Nat.reduceEqDiff, not_false_eq_true, not_true_eq_false, bin_add, bin_sub, bin_mul, bin_eql, bin_neq, bin_lss, bin_leq, bin_gtr, bin_geq, bin_seql, bin_sneq, binb_eql, binb_neq, un_not, un_neg, pick_t, pick_f, mn_2, mx_2, len_nils, len_fs, len_row, eqa_2, bld2_int, lit2_int, decide_true, decide_false, Bool.not_true, Bool.not_false, Bool.false_eq_true, List.length_map, List.getD_cons_zero, List.getD_cons_succ, List.getD_nil, endLoop_ready r2.loop, c11_r4, g5, ls, y1, FinQ_retd, hkill, res_t]
  obtain ⟨w, w1, w2⟩ := leave2_OwnK (lb := H.length) (D := m + 2) (h0 := H) y2 (by simp; omega) (by simp; omega) (underI _)
  exact ⟨_, w1, rfl, w2⟩
end Go.Proofs.Tryt17A
end

section
namespace Go.Proofs.Tryt17A
open Go Go.AM
set_option linter.unusedSimpArgs false
set_option linter.unusedVariables false

/-! ### Plain facts: no program in sight -/
theorem dd_mem {α : Type} [DecidableEq α] (d : α) (l : List α) : ∀ k, k ≤ l.length → ∀ x, x ∈ dd d l k ↔ x ∈ l.take k
  | 0, _, x => by simp [dd]
  | k + 1, h, x => by
    have hk : k < l.length := h
    have ih := dd_mem d l k (by omega) x
    have e : l.take (k + 1) = l.take k ++ [l[k]] := by rw [List.take_succ_eq_append_getElem hk]
    have g : l.getD k d = l[k] := by simp [List.getD, List.getElem?_eq_getElem hk]
    simp only [dd]
    split
    · rename_i hc
      have hk1 : k - 1 < l.length := by omega
      have g1 : l.getD (k - 1) d = l[k - 1] := by simp [List.getD, List.getElem?_eq_getElem hk1]
      rw [ih, e, List.mem_append, List.mem_singleton]
      refine ⟨.inl, fun h => h.elim id fun h => ?_⟩
      rw [h, ← g, hc.2, g1]
      rw [List.mem_take_iff_getElem]
      exact ⟨k - 1, by omega, rfl⟩
    · rw [List.mem_append, ih, e, List.mem_append, g]

theorem dd_lt {α : Type} [DecidableEq α] (le : α → α → Prop) (hr : ∀ a, le a a) (ht : ∀ a b c, le a b → le b c → le a c) (ha : ∀ a b, le a b → le b a → a = b) (d : α) (l : List α) (hl : l.Pairwise le) :
    ∀ k, k ≤ l.length → (dd d l k).Pairwise fun a b => le a b ∧ a ≠ b
  | 0, _ => by simp [dd]
  | k + 1, h => by
    have hk : k < l.length := h
    have ih := dd_lt le hr ht ha d l hl k (by omega)
    have g : l.getD k d = l[k] := by simp [List.getD, List.getElem?_eq_getElem hk]
    simp only [dd]
    split
    · exact ih
    · rename_i hc
      rw [List.pairwise_append]
      refine ⟨ih, by simp, fun x hx y hy => ?_⟩
      rw [List.mem_singleton] at hy
      subst hy
      rw [g] at hc ⊢
      have hx' := (dd_mem d l k (by omega) x).1 hx
      obtain ⟨j, hj, rfl⟩ := List.mem_take_iff_getElem.1 hx'
      have hjk : j < k := by omega
      have h1 : le l[j] l[k] := List.pairwise_iff_getElem.1 hl j k (by omega) hk hjk
      refine ⟨h1, fun he => hc ⟨by omega, ?_⟩⟩
      have hk1 : k - 1 < l.length := by omega
      have g1 : l.getD (k - 1) d = l[k - 1] := by simp [List.getD, List.getElem?_eq_getElem hk1]
      rw [g1]
      have h2 : le l[j] l[k - 1] := by
        by_cases e : j = k - 1
        · subst e; exact hr _
        · exact List.pairwise_iff_getElem.1 hl j (k - 1) (by omega) hk1 (by omega)
      have h3 : le l[k - 1] l[k] := List.pairwise_iff_getElem.1 hl (k - 1) k hk1 hk (by omega)
      rw [← he] at h3 ⊢
      exact ha _ _ h2 h3

theorem leP_refl (a : Int × Int) : leP a a := by simp [leP]
theorem leP_trans (a b c : Int × Int) (h1 : leP a b) (h2 : leP b c) : leP a c := by simp only [leP] at *; omega
theorem leP_anti (a b : Int × Int) (h1 : leP a b) (h2 : leP b a) : a = b := by
  simp only [leP] at *
  exact Prod.ext (by omega) (by omega)
def ltP (a b : Int × Int) : Prop := leP a b ∧ a ≠ b
def ltI (a b : Int) : Prop := a ≤ b ∧ a ≠ b

theorem ofL_lt (l : List (Int × Int)) : (ofL l).Pairwise ltP := dd_lt leP leP_refl leP_trans leP_anti _ _ (sortP_sorted _) _ (Nat.le_refl _)
theorem plL_lt (l : List Int) : (plL l).Pairwise ltI := dd_lt (· ≤ ·) (fun _ => Int.le_refl _) (fun _ _ _ => Int.le_trans) (fun _ _ => Int.le_antisymm) _ _ (sortI_sorted _) _ (Nat.le_refl _)
theorem ofL_mem (l : List (Int × Int)) (x : Int × Int) : x ∈ ofL l ↔ x ∈ goodL l := by
  unfold ofL
  rw [dd_mem _ _ _ (Nat.le_refl _), List.take_length, (sortP_perm _).mem_iff]
theorem plL_mem (l : List Int) (x : Int) : x ∈ plL l ↔ x ∈ l ∧ 0 ≤ x := by
  unfold plL
  rw [dd_mem _ _ _ (Nat.le_refl _), List.take_length, (sortI_perm _).mem_iff, List.mem_filter]
  simp

/-- Strictly rising lists with the same members are the same. -/
theorem same_of {α : Type} (lt : α → α → Prop) (hn : ∀ a b, lt a b → lt b a → False) (hi : ∀ a, ¬lt a a) : ∀ (l m : List α), l.Pairwise lt → m.Pairwise lt → (∀ x, x ∈ l ↔ x ∈ m) → l = m
  | [], [], _, _, _ => rfl
  | [], b :: m, _, _, h => absurd ((h b).2 (List.mem_cons_self ..)) (by simp)
  | a :: l, [], _, _, h => absurd ((h a).1 (List.mem_cons_self ..)) (by simp)
  | a :: l, b :: m, hl, hm, h => by
    have ⟨l1, l2⟩ := List.pairwise_cons.1 hl
    have ⟨m1, m2⟩ := List.pairwise_cons.1 hm
    have e : a = b := by
      rcases List.mem_cons.1 ((h a).1 (List.mem_cons_self ..)) with e | h1
      · exact e
      · rcases List.mem_cons.1 ((h b).2 (List.mem_cons_self ..)) with e | h2
        · exact e.symm
        · exact (hn _ _ (l1 b h2) (m1 a h1)).elim
    subst e
    refine congrArg _ (same_of lt hn hi l m l2 m2 fun x => ⟨fun hx => ?_, fun hx => ?_⟩)
    · rcases List.mem_cons.1 ((h x).1 (List.mem_cons_of_mem _ hx)) with rfl | h1
      · exact (hi _ (l1 _ hx)).elim
      · exact h1
    · rcases List.mem_cons.1 ((h x).2 (List.mem_cons_of_mem _ hx)) with rfl | h1
      · exact (hi _ (m1 _ hx)).elim
      · exact h1
theorem sameP {l m : List (Int × Int)} (hl : l.Pairwise ltP) (hm : m.Pairwise ltP) (h : ∀ x, x ∈ l ↔ x ∈ m) : l = m :=
  same_of ltP (fun a b h1 h2 => h1.2 (leP_anti _ _ h1.1 h2.1)) (fun a h => h.2 rfl) l m hl hm h
theorem sameI {l m : List Int} (hl : l.Pairwise ltI) (hm : m.Pairwise ltI) (h : ∀ x, x ∈ l ↔ x ∈ m) : l = m :=
  same_of ltI (fun a b h1 h2 => h1.2 (Int.le_antisymm h1.1 h2.1)) (fun a h => h.2 rfl) l m hl hm h

/-! good -/
theorem goodL_mem (l : List (Int × Int)) (q : Int × Int) : q ∈ goodL l ↔ isg q = true ∧ ∃ p, p ∈ l ∧ gq p = q := by
  unfold goodL
  rw [List.mem_filter, List.mem_map]
  exact And.comm
theorem goodL_app (l m : List (Int × Int)) : goodL (l ++ m) = goodL l ++ goodL m := by simp [goodL]
/-- Pairs in form. -/
def okP (q : Int × Int) : Prop := 0 ≤ q.1 ∧ q.1 < q.2
theorem gq_ok {p : Int × Int} (h : isg (gq p) = true) : okP (gq p) := by
  simp only [isg, Bool.and_eq_true, decide_eq_true_eq, Bool.not_eq_true', decide_eq_false_iff_not] at h
  simp only [gq] at h
  simp only [okP, gq]
  obtain ⟨h1, h2⟩ := h
  by_cases c1 : p.2 < p.1 <;> by_cases c2 : p.1 < p.2 <;> simp only [if_pos, if_neg, c1, c2, if_true, if_false, not_true_eq_false, and_true] at h1 h2 ⊢ <;> omega
theorem good_ok {l : List (Int × Int)} {q : Int × Int} (h : q ∈ goodL l) : okP q := by
  obtain ⟨h1, p, _, rfl⟩ := (goodL_mem _ _).1 h
  exact gq_ok h1
theorem ok_gq {q : Int × Int} (h : okP q) : gq q = q ∧ isg q = true := by
  obtain ⟨h1, h2⟩ := h
  constructor
  · simp only [gq]
    exact Prod.ext (by simp only; split <;> omega) (by simp only; split <;> omega)
  · simp only [isg, Bool.and_eq_true, decide_eq_true_eq, Bool.not_eq_true', decide_eq_false_iff_not]
    omega
theorem good_self {l : List (Int × Int)} (h : ∀ q, q ∈ l → okP q) (q : Int × Int) : q ∈ goodL l ↔ q ∈ l := by
  rw [goodL_mem]
  constructor
  · rintro ⟨_, p, hp, rfl⟩
    rw [(ok_gq (h p hp)).1]
    exact hp
  · intro hq
    exact ⟨(ok_gq (h q hq)).2, q, hq, (ok_gq (h q hq)).1⟩
theorem ofL_ok {l : List (Int × Int)} {q : Int × Int} (h : q ∈ ofL l) : okP q := good_ok ((ofL_mem _ _).1 h)
theorem woL_ok {l : List (Int × Int)} {to : List Int} {q : Int × Int} (h : q ∈ woL l to) : okP q := ofL_ok (List.mem_filter.1 h).1

theorem wantP_eq (a b : Int) : wantP a b = gq (a, b) := rfl
theorem hasB_good (l : List (Int × Int)) (a b : Int) : hasB l a b = decide (wantP a b ∈ goodL l) := by
  rw [Bool.eq_iff_iff]
  simp only [hasB, hasL, Bool.and_eq_true, Bool.not_eq_true', decide_eq_false_iff_not, decide_eq_true_eq, List.any_eq_true, Bool.or_eq_true, goodL_mem, wantP_eq, isg, gq]
  constructor
  · rintro ⟨⟨⟨h1, h2⟩, h3⟩, p, hp, h⟩
    refine ⟨⟨?_, ?_⟩, p, hp, ?_⟩
    · split <;> omega
    · split <;> split <;> omega
    · rcases h with h | h <;> rw [h.1, h.2] <;> simp only [Prod.mk.injEq] <;> constructor <;> repeat' split <;> omega
  · rintro ⟨⟨h1, h2⟩, p, hp, h⟩
    simp only [Prod.mk.injEq] at h
    refine ⟨⟨⟨?_, ?_⟩, ?_⟩, p, hp, ?_⟩
    · split at h1 <;> omega
    · split at h1 <;> omega
    · intro h; subst h; simp at h2
    · obtain ⟨e1, e2⟩ := h
      by_cases c1 : p.2 < p.1 <;> by_cases c2 : b < a <;> by_cases c3 : p.1 < p.2 <;> by_cases c4 : a < b <;> simp only [c1, c2, c3, c4, if_true, if_false] at e1 e2 h2 <;> first | omega | (left; exact ⟨by omega, by omega⟩) | (right; exact ⟨by omega, by omega⟩)
theorem hasB_ok {l : List (Int × Int)} (h : ∀ q, q ∈ l → okP q) (a b : Int) : hasB l a b = decide (wantP a b ∈ l) := by
  rw [hasB_good, Bool.eq_iff_iff, decide_eq_true_eq, decide_eq_true_eq, good_self h]
theorem hasB_of (l : List (Int × Int)) (a b : Int) : hasB (ofL l) a b = hasB l a b := by
  rw [hasB_ok (fun q hq => ofL_ok hq), hasB_good, Bool.eq_iff_iff, decide_eq_true_eq, decide_eq_true_eq, ofL_mem]
theorem hasB_app (l m : List (Int × Int)) (a b : Int) : hasB (l ++ m) a b = (hasB l a b || hasB m a b) := by
  rw [hasB_good, hasB_good, hasB_good, goodL_app, Bool.eq_iff_iff]
  simp
theorem inB_iff (l : List Int) (n : Int) : inB l n = true ↔ n ∈ l ∧ 0 ≤ n := by
  simp only [inB, List.any_eq_true, decide_eq_true_eq]
  constructor
  · rintro ⟨x, h1, rfl, h2⟩; exact ⟨h1, h2⟩
  · rintro ⟨h1, h2⟩; exact ⟨n, h1, rfl, h2⟩
theorem hasB_iff (l : List (Int × Int)) (a b : Int) : hasB l a b = true ↔ 0 ≤ a ∧ 0 ≤ b ∧ a ≠ b ∧ ((a, b) ∈ l ∨ (b, a) ∈ l) := by
  simp only [hasB, hasL, Bool.and_eq_true, Bool.not_eq_true', decide_eq_false_iff_not, List.any_eq_true, Bool.or_eq_true, decide_eq_true_eq]
  constructor
  · rintro ⟨⟨⟨h1, h2⟩, h3⟩, p, hp, h⟩
    refine ⟨by omega, by omega, h3, ?_⟩
    rcases h with h | h
    · left; rw [← h.1, ← h.2]; exact hp
    · right; rw [← h.1, ← h.2]; exact hp
  · rintro ⟨h1, h2, h3, h⟩
    refine ⟨⟨⟨by omega, by omega⟩, h3⟩, ?_⟩
    rcases h with h | h
    · exact ⟨_, h, .inl ⟨rfl, rfl⟩⟩
    · exact ⟨_, h, .inr ⟨rfl, rfl⟩⟩
theorem hasB_symm (l : List (Int × Int)) (a b : Int) : hasB l a b = hasB l b a := by
  rw [Bool.eq_iff_iff, hasB_iff, hasB_iff]
  constructor <;> rintro ⟨h1, h2, h3, h⟩ <;> exact ⟨h2, h1, Ne.symm h3, h.symm⟩
theorem ok_has {l : List (Int × Int)} {q : Int × Int} (h : okP q) (hq : q ∈ l) : hasB l q.1 q.2 = true :=
  (hasB_iff _ _ _).2 ⟨h.1, by have := h.1; have := h.2; omega, by have := h.2; omega, .inl hq⟩
theorem good_has {l : List (Int × Int)} {q : Int × Int} (h : okP q) : q ∈ goodL l ↔ hasB l q.1 q.2 = true := by
  rw [hasB_good, decide_eq_true_eq, wantP_eq, show gq (q.1, q.2) = q from (ok_gq h).1]

/-! close -/
theorem clo_mem (to : List Int) : ∀ k, k ≤ to.length → ∀ a b, (a, b) ∈ clo to k ↔ ∃ i j, ∃ (hi : i < k) (hj : j < i), ∃ h1 : i < to.length, a = to[i] ∧ b = to[j]
  | 0, _, a, b => by simp [clo]
  | k + 1, h, a, b => by
    have hk : k < to.length := h
    have g : to.getD k 0 = to[k] := by simp [List.getD, List.getElem?_eq_getElem hk]
    simp only [clo, List.mem_append, clo_mem to k (by omega), inn, List.mem_map, g, Prod.mk.injEq]
    constructor
    · rintro (⟨i, j, hi, hj, h1, h2⟩ | ⟨x, hx, h1, rfl⟩)
      · exact ⟨i, j, by omega, hj, h1, h2⟩
      · obtain ⟨j, hj, rfl⟩ := List.mem_take_iff_getElem.1 hx
        exact ⟨k, j, by omega, by omega, hk, h1.symm, rfl⟩
    · rintro ⟨i, j, hi, hj, h1, h2, h3⟩
      by_cases e : i = k
      · subst e
        exact .inr ⟨to[j], List.mem_take_iff_getElem.2 ⟨j, by omega, rfl⟩, h2.symm, h3.symm⟩
      · exact .inl ⟨i, j, by omega, hj, h1, h2, h3⟩
theorem clo_has (to : List Int) (a b : Int) : hasB (clo to to.length) a b = (!decide (a = b) && (inB to a && inB to b)) := by
  rw [Bool.eq_iff_iff, hasB_iff]
  simp only [clo_mem to _ (Nat.le_refl _), Bool.and_eq_true, Bool.not_eq_true', decide_eq_false_iff_not, inB_iff]
  constructor
  · rintro ⟨h1, h2, h3, ⟨i, j, hi, hj, hl, rfl, rfl⟩ | ⟨i, j, hi, hj, hl, rfl, rfl⟩⟩
    · exact ⟨h3, ⟨List.getElem_mem _, h1⟩, List.getElem_mem _, h2⟩
    · exact ⟨h3, ⟨List.getElem_mem _, h1⟩, List.getElem_mem _, h2⟩
  · rintro ⟨h3, ⟨ha, h1⟩, hb, h2⟩
    refine ⟨h1, h2, h3, ?_⟩
    obtain ⟨i, hi, rfl⟩ := List.getElem_of_mem ha
    obtain ⟨j, hj, rfl⟩ := List.getElem_of_mem hb
    rcases Nat.lt_trichotomy i j with h | h | h
    · exact .inr ⟨j, i, hj, h, hj, rfl, rfl⟩
    · subst h; exact (h3 rfl).elim
    · exact .inl ⟨i, j, hi, h, hi, rfl, rfl⟩
theorem hasB_cl (l : List (Int × Int)) (to : List Int) (a b : Int) : hasB (clL l to) a b = (hasB l a b || (!decide (a = b) && (inB to a && inB to b))) := by
  unfold clL
  rw [hasB_of, hasB_app, clo_has]
theorem hasB_un (l m : List (Int × Int)) (a b : Int) : hasB (ofL (l ++ m)) a b = (hasB l a b || hasB m a b) := by rw [hasB_of, hasB_app]
theorem inB_mem {to : List Int} {a : Int} (h : 0 ≤ a) : inB to a = decide (a ∈ to) := by
  rw [Bool.eq_iff_iff, inB_iff, decide_eq_true_eq]
  exact ⟨fun h => h.1, fun h1 => ⟨h1, h⟩⟩
theorem hasB_wo (l : List (Int × Int)) (to : List Int) (a b : Int) : hasB (woL l to) a b = (hasB l a b && (!inB to a && !inB to b)) := by
  rw [Bool.eq_iff_iff, hasB_ok (fun q hq => woL_ok hq), decide_eq_true_eq, woL, List.mem_filter, ofL_mem]
  have e : wantP a b ∈ goodL l ↔ hasB l a b = true := by rw [hasB_good, decide_eq_true_eq]
  rw [e, Bool.and_eq_true]
  refine and_congr_right fun h => ?_
  obtain ⟨h1, h2, h3, _⟩ := (hasB_iff _ _ _).1 h
  rw [inB_mem h1, inB_mem h2]
  simp only [wantP]
  by_cases c : b < a
  · have c2 : ¬a < b := by omega
    simp [c, c2, and_comm]
  · have c2 : a < b := by omega
    simp [c, c2]

/-! related -/
theorem inB_pl (to : List Int) (x : Int) : inB (plL to) x = inB to x := by
  rw [Bool.eq_iff_iff, inB_iff, inB_iff, plL_mem]
  exact ⟨fun h => h.1, fun h => ⟨h, h.2⟩⟩
theorem coll_mem (pl : List Int) (d : List (Int × Int)) (x : Int) : x ∈ coll pl d ↔ ∃ q, q ∈ d ∧ (q.1 ∈ pl ∨ q.2 ∈ pl) ∧ (x = q.1 ∨ x = q.2) := by
  simp only [coll, List.mem_flatMap]
  refine exists_congr fun q => and_congr_right fun _ => ?_
  split
  · rename_i h
    simp only [Bool.or_eq_true, decide_eq_true_eq] at h
    simp [h]
  · rename_i h
    simp only [Bool.or_eq_true, decide_eq_true_eq] at h
    simp [h]
theorem rlL_mem (l : List (Int × Int)) (to : List Int) (x : Int) : x ∈ rlL l to ↔ inB to x = true ∨ ∃ y, y ∈ to ∧ hasB l y x = true := by
  unfold rlL
  rw [plL_mem, List.mem_append, plL_mem, coll_mem, inB_iff]
  constructor
  · rintro ⟨h | ⟨q, hq, h1, h2⟩, hx⟩
    · exact .inl h
    · have ho := good_ok hq
      have hb := (good_has ho).1 hq
      have hb' := hasB_symm l q.1 q.2 ▸ hb
      rw [plL_mem, plL_mem] at h1
      rcases h2 with rfl | rfl
      · rcases h1 with h1 | h1
        · exact .inl h1
        · exact .inr ⟨_, h1.1, hb'⟩
      · rcases h1 with h1 | h1
        · exact .inr ⟨_, h1.1, hb⟩
        · exact .inl h1
  · rintro (h | ⟨y, hy, h⟩)
    · exact ⟨.inl h, h.2⟩
    · obtain ⟨h1, h2, h3, h4⟩ := (hasB_iff _ _ _).1 h
      refine ⟨.inr ⟨wantP y x, ?_, ?_, ?_⟩, h2⟩
      · rw [hasB_good, decide_eq_true_eq] at h; exact h
      · rw [plL_mem, plL_mem]
        simp only [wantP]
        by_cases c : x < y
        · have c2 : ¬y < x := by omega
          simp only [c, c2, if_true, if_false]; exact .inr ⟨hy, h1⟩
        · have c2 : y < x := by omega
          simp only [c, c2, if_true, if_false]; exact .inl ⟨hy, h1⟩
      · simp only [wantP]
        by_cases c : x < y
        · simp [c]
        · have c2 : y < x := by omega
          simp [c, c2]
theorem inB_rl (l : List (Int × Int)) (to : List Int) (x : Int) : inB (rlL l to) x = relB l to x := by
  rw [Bool.eq_iff_iff, inB_iff, rlL_mem]
  simp only [relB, Bool.or_eq_true, List.any_eq_true]
  constructor
  · exact fun h => h.1
  · intro h
    refine ⟨h, ?_⟩
    rcases h with h | ⟨y, _, h⟩
    · exact ((inB_iff _ _).1 h).2
    · exact ((hasB_iff _ _ _).1 h).2.1

/-! form, rising -/
theorem form_ok (l : List (Int × Int)) (h1 : ∀ q, q ∈ l → okP q) (h2 : l.Pairwise ltP) : ∀ i, formF l i = true := by
  suffices h : ∀ n i, l.length - i = n → formF l i = true from fun i => h _ i rfl
  intro n
  induction n with
  | zero => intro i hi; rw [formF, dif_neg (by omega)]
  | succ n ih =>
    intro i hi
    have hil : i < l.length := by omega
    rw [formF, dif_pos hil, ih (i + 1) (by omega)]
    have a1 := h1 _ (List.getElem_mem hil)
    have b1 : bad1 l[i] = false := by
      simp only [bad1, okP] at *
      simp only [Bool.or_eq_false_iff, decide_eq_false_iff_not]
      omega
    rw [b1]
    by_cases hp : 0 < i
    · have hi1 : i - 1 < l.length := by omega
      have g : l.getD (i - 1) (0, 0) = l[i - 1] := by simp [List.getD, List.getElem?_eq_getElem hi1]
      have := List.pairwise_iff_getElem.1 h2 (i - 1) i hi1 hil (by omega)
      have b2 : bad2 l[i - 1] l[i] = false := by
        obtain ⟨c1, c2⟩ := this
        have c3 : ¬(l[i - 1].1 = l[i].1 ∧ l[i - 1].2 = l[i].2) := fun h => c2 (Prod.ext h.1 h.2)
        simp only [leP] at c1
        simp only [bad2, Bool.or_eq_false_iff, Bool.and_eq_false_iff, decide_eq_false_iff_not]
        omega
      rw [g, b2]
      simp
    · simp [hp]
theorem ris_ok (l : List Int) (h1 : ∀ q, q ∈ l → 0 ≤ q) (h2 : l.Pairwise ltI) : ∀ i, risF l i = true := by
  suffices h : ∀ n i, l.length - i = n → risF l i = true from fun i => h _ i rfl
  intro n
  induction n with
  | zero => intro i hi; rw [risF, dif_neg (by omega)]
  | succ n ih =>
    intro i hi
    have hil : i < l.length := by omega
    rw [risF, dif_pos hil, ih (i + 1) (by omega)]
    have a1 := h1 _ (List.getElem_mem hil)
    have b1 : decide (l[i] < 0) = false := by simp; omega
    rw [b1]
    by_cases hp : 0 < i
    · have hi1 : i - 1 < l.length := by omega
      have g : l.getD (i - 1) 0 = l[i - 1] := by simp [List.getD, List.getElem?_eq_getElem hi1]
      have := List.pairwise_iff_getElem.1 h2 (i - 1) i hi1 hil (by omega)
      have b2 : decide (l[i] ≤ l[i - 1]) = false := by
        obtain ⟨c1, c2⟩ := this
        simp; omega
      rw [g, b2]
      simp
    · simp [hp]
theorem of_form (l : List (Int × Int)) : formF (ofL l) 0 = true := form_ok _ (fun _ => ofL_ok) (ofL_lt l) 0
theorem woL_lt (l : List (Int × Int)) (to : List Int) : (woL l to).Pairwise ltP := (ofL_lt l).sublist (List.filter_sublist)
theorem wo_form (l : List (Int × Int)) (to : List Int) : formF (woL l to) 0 = true := form_ok _ (fun _ => woL_ok) (woL_lt l to) 0
theorem cl_form (l : List (Int × Int)) (to : List Int) : formF (clL l to) 0 = true := of_form _
theorem pl_ris (l : List Int) : risF (plL l) 0 = true := ris_ok _ (fun _ h => ((plL_mem _ _).1 h).2) (plL_lt l) 0
theorem rl_ris (l : List (Int × Int)) (to : List Int) : risF (rlL l to) 0 = true := pl_ris _

/-! for the second law -/
theorem of_ext {l m : List (Int × Int)} (h : ∀ a b, hasB l a b = hasB m a b) : ofL l = ofL m := by
  refine sameP (ofL_lt l) (ofL_lt m) fun x => ?_
  constructor <;> intro hx
  · have ho := ofL_ok hx
    rw [ofL_mem, good_has ho] at hx ⊢
    rw [← h]; exact hx
  · have ho := ofL_ok hx
    rw [ofL_mem, good_has ho] at hx ⊢
    rw [h]; exact hx
theorem un_comm (a b : List (Int × Int)) : ofL (a ++ b) = ofL (b ++ a) := of_ext fun x y => by rw [hasB_app, hasB_app, Bool.or_comm]
theorem un_idem (a b : List (Int × Int)) : ofL (ofL (a ++ b) ++ a) = ofL (a ++ b) := of_ext fun x y => by
  rw [hasB_app, hasB_of, hasB_app]
  cases hasB a x y <;> simp
theorem of_of (a : List (Int × Int)) : ofL (ofL a) = ofL a := of_ext fun x y => hasB_of a x y
theorem cl_cl (a : List (Int × Int)) (to : List Int) : clL (clL a to) to = clL a to := of_ext fun x y => by
  rw [hasB_app, hasB_cl, hasB_app, clo_has]
  cases hasB a x y <;> simp
theorem wo_ext {l m : List (Int × Int)} (to to' : List Int) (h : ∀ a b, hasB (woL l to) a b = hasB (woL m to') a b) : woL l to = woL m to' := by
  refine sameP (woL_lt l to) (woL_lt m to') fun x => ?_
  constructor <;> intro hx
  · have ho := woL_ok hx
    rw [← good_self (fun q hq => woL_ok hq), good_has ho] at hx ⊢
    rw [← h]; exact hx
  · have ho := woL_ok hx
    rw [← good_self (fun q hq => woL_ok hq), good_has ho] at hx ⊢
    rw [h]; exact hx
theorem wo_cl (a : List (Int × Int)) (to : List Int) : woL a to = woL (clL a to) to := wo_ext _ _ fun x y => by
  rw [hasB_wo, hasB_wo, hasB_cl]
  cases hasB a x y <;> cases inB to x <;> cases inB to y <;> simp
theorem rl_mono {a u : List (Int × Int)} {to both : List Int} (h : ∀ x y, hasB a x y = true → hasB u x y = true) (ht : ∀ x, x ∈ to → x ∈ both) (x : Int) (hx : x ∈ rlL a to) : inB (rlL u both) x = true := by
  have h1 : x ∈ rlL u both := by
    rw [rlL_mem] at hx ⊢
    rcases hx with hx | ⟨y, h1, h2⟩
    · rw [inB_iff] at hx ⊢
      exact .inl ⟨ht _ hx.1, hx.2⟩
    · exact .inr ⟨y, ht _ h1, h _ _ h2⟩
  rw [inB_iff]
  exact ⟨h1, by unfold rlL at h1; exact ((plL_mem _ _).1 h1).2⟩
theorem rl_cl (a : List (Int × Int)) (to : List Int) (x y : Int) (hx : x ∈ plL to) (hy : y ∈ plL to) : inB (rlL (clL a to) [x]) y = true := by
  rw [plL_mem] at hx hy
  rw [inB_rl]
  simp only [relB, Bool.or_eq_true, List.any_eq_true, inB_iff, List.mem_singleton, exists_eq_left, hasB_cl, Bool.and_eq_true, Bool.not_eq_true', decide_eq_false_iff_not]
  by_cases e : y = x
  · exact .inl ⟨e, hy.2⟩
  · exact .inr (.inr ⟨Ne.symm e, ⟨hx, hy⟩⟩)
theorem rl_wo (c : List (Int × Int)) (to : List Int) (x : Int) (hx : x ∈ plL to) : rlL (woL c to) [x] = [x] := by
  refine sameI (plL_lt _) (by simp) fun y => ?_
  rw [rlL_mem]
  rw [plL_mem] at hx
  simp only [inB_iff, List.mem_singleton, exists_eq_left, hasB_wo]
  have : inB to x = true := (inB_iff _ _).2 hx
  simp only [this]
  constructor
  · rintro (h | h)
    · exact h.1
    · simp at h
  · rintro rfl
    exact .inl ⟨rfl, hx.2⟩
end Go.Proofs.Tryt17A
end

section
namespace Go.Proofs.Tryt17A
open Go Go.AM
set_option linter.unusedSimpArgs false
set_option linter.unusedVariables false
variable {cx : Ctx} {H : Heap}

/-- A slice at hand: nil, frozen, or a row of its own. -/
def Hd (z : Nat) (h : Heap) (v : AV) (es : List (List AV)) : Prop :=
  (v = .nils ∧ es = []) ∨ (∃ x, v = .fs es x) ∨ ∃ i, v = .row i 0 0 es.length es.length z ∧ h[i]? = some (.cells 0 es)
def Keep (h h' : Heap) : Prop := h.length ≤ h'.length ∧ ∀ k, k < h.length → h'[k]? = h[k]?
theorem Keep.refl (h : Heap) : Keep h h := ⟨Nat.le_refl _, fun _ _ => rfl⟩
theorem Keep.trans {a b c : Heap} (h1 : Keep a b) (h2 : Keep b c) : Keep a c := ⟨Nat.le_trans h1.1 h2.1, fun k hk => by rw [h2.2 k (Nat.lt_of_lt_of_le hk h1.1), h1.2 k hk]⟩
theorem Hd.keep {z : Nat} {h h' : Heap} {v : AV} {es : List (List AV)} (hd : Hd z h v es) (k : Keep h h') : Hd z h' v es := by
  rcases hd with h1 | h1 | ⟨i, h1, h2⟩
  · exact .inl h1
  · exact .inr (.inl h1)
  · exact .inr (.inr ⟨i, h1, by rw [k.2 i (List.getElem?_eq_some_iff.1 h2).1]; exact h2⟩)
theorem Hd.sl {z : Nat} {h : Heap} {v : AV} {es : List (List AV)} (hd : Hd z h v es) (hz : ∀ e ∈ es, e.length = z) : Sl z h v es := by
  rcases hd with ⟨rfl, rfl⟩ | ⟨x, rfl⟩ | ⟨i, rfl, h2⟩
  · exact .nils
  · exact .fs hz
  · exact Sl.row (all := es) (by simp [rdRow, h2]) (by simp) (by intro k hk; simp)
theorem Hd.fz {z : Nat} {h : Heap} {v : AV} {es : List (List AV)} (f : Fz v es) : Hd z h v es := by
  rcases f with h1 | h1
  · exact .inl h1
  · exact .inr (.inl h1)
theorem Hd.own {z : Nat} {H : Heap} {es : List (List AV)} {r : AV × Heap} (o : Own3 z H es r) : Hd z r.2 r.1 es ∧ Keep H r.2 := by
  refine ⟨?_, own3_old o⟩
  rcases o with ⟨h1, h2 | h2, _⟩ | rfl
  · exact .inl ⟨h2, h1⟩
  · exact .inr (.inl ⟨true, by rw [h2, h1]⟩)
  · exact .inr (.inr ⟨H.length, rfl, by simp⟩)
theorem ap_hd {wp : Nat} {h : Heap} {z bytes : Nat} {x : AV} {new : List (List AV)} (hx : Sl z h x new) (h1 : new.length * bytes ≤ maxLn) (h2 : new.length ≤ maxLn) :
    ∃ r, apM wp h z bytes .nils x = some r ∧ Own3 z h new r := by
  have := ap_new (wp := wp) (bytes := bytes) (s := .nils) (.inl rfl) hx h1 h2
  by_cases hn : new = []
  · rw [if_pos hn] at this; exact ⟨_, this, .inl ⟨hn, .inl rfl, rfl⟩⟩
  · rw [if_neg hn] at this; exact ⟨_, this, .inr rfl⟩

section
variable {T : Tab} {cx : Ctx} {Q : Ex → St → Prop} {K : List Kont} {b0 d : Nat} {fr : List AV} {ds : List Nat} {h : Heap} {rest : List AO} {x y w x' : Opd}
def lit3M (z : List AV) (a b c : AV) : Option AV := (fillRow z.length (List.replicate 3 z) [(0, a), (1, b), (2, c)]).map fun es => AV.fs es true
theorem RO_lit3 {z : List AV} : RO T cx Q K b0 (⟨some d, .lit 3 z [(0, x), (1, y), (2, w)], none⟩ :: rest) ⟨fr, ds, h⟩ ↔ OM (lit3M z (opd fr x) (opd fr y) (opd fr w)) fun v => RO T cx Q K b0 rest ⟨fr.set d v, ds, h⟩ := by
  rw [RO_lit]; exact Iff.rfl
def lit4M (z : List AV) (a b c e : AV) : Option AV := (fillRow z.length (List.replicate 4 z) [(0, a), (1, b), (2, c), (3, e)]).map fun es => AV.fs es true
theorem RO_lit4' {z : List AV} : RO T cx Q K b0 (⟨some d, .lit 4 z [(0, x), (1, y), (2, w), (3, x')], none⟩ :: rest) ⟨fr, ds, h⟩ ↔ OM (lit4M z (opd fr x) (opd fr y) (opd fr w) (opd fr x')) fun v => RO T cx Q K b0 rest ⟨fr.set d v, ds, h⟩ := by
  rw [RO_lit]; exact Iff.rfl
theorem lit3_int {a b c : Int} {z : AV} : lit3M [z] (.int .i64 a) (.int .i64 b) (.int .i64 c) = some (.fs ([a, b, c].map encI) true) := by simp [lit3M, fillRow, AV.cells, List.replicate, encI]
theorem lit4_int {a b c e : Int} {z : AV} : lit4M [z] (.int .i64 a) (.int .i64 b) (.int .i64 c) (.int .i64 e) = some (.fs ([a, b, c, e].map encI) true) := by simp [lit4M, fillRow, AV.cells, List.replicate, encI]
end

/-! ### wakes -/
theorem f6_spec (hw : cx.wp ≤ H.length) : callF (T prim23 prim36) (ev (T prim23 prim36)) cx 6 [] H = some (.bool true, H) := by
  refine callF_code2 (a := a6) rfl rfl hw (Nat.le_of_ble_eq_true rfl) rfl ?_
  simp only [a6, c6]
  have fz : ∀ es, Fz (.fs es true) es := fun es => .inr ⟨_, rfl⟩
  obtain ⟨r, p1, p2⟩ := f7_spec (cx := ⟨H.length, none⟩) (H := H) (l := [(3, 1), (1, 3), (2, 2)]) (v := .fs ([(3, 1), (1, 3), (2, 2)].map encP) true) rfl (fun h _ => .fs (lensP _)) (by decide) (Nat.le_refl _)
  have e1 : ofL [(3, 1), (1, 3), (2, 2)] = [(1, 3)] := by decide
  obtain ⟨d1, k1⟩ := Hd.own p2
  obtain ⟨s, q1, q2⟩ := f11_spec (cx := ⟨H.length, none⟩) (H := r.2) (l := [(1, 3), (3, 5)]) (to := [3]) (u := .fs ([3].map encI) true) (fz _) (.fs (lensI _)) (by decide) (by decide) k1.1
  have e2 : rlL [(1, 3), (3, 5)] [3] = [1, 3, 5] := by decide
  obtain ⟨t, t1, t2⟩ := f10_spec (cx := ⟨H.length, none⟩) (H := r.2) (l := [(1, 3), (2, 4)]) (to := [3]) (fz _) (fz _) (by decide) (by decide) k1.1
  have e3 : woL [(1, 3), (2, 4)] [3] = [(2, 4)] := by decide
  have g := f19_spec (cx := ⟨H.length, none⟩) (H := r.2) (l := [(1, 3)]) 3 1 (fz _) (by decide) k1.1
  have e4 : decide (wantP 3 1 ∈ goodL [(1, 3)]) = true := by decide
  rw [e4] at g
  rw [e1] at d1
  rw [e2] at q2
  rw [e3] at t2
  have sr := d1.sl (lensP _)
  have ss := (Hd.fz (z := 1) (h := r.2) q2).sl (lensI _)
  have st := (Hd.fz (z := 2) (h := r.2) t2).sl (lensP _)
  have a1 : lenM r.1 = some (.int .i64 1) := sr.len
  have a2 : lenM s = some (.int .i64 3) := ss.len
  have a3 : lenM t = some (.int .i64 1) := st.len
  have b1 : ixsM 2 r.1 (.int .i64 0) = some (elp 2 r.1 .i64 0) := sr.ixs (i := 0) (by decide)
  have b2 : ixsM 1 s (.int .i64 2) = some (elp 1 s .i64 2) := ss.ixs (i := 2) (by decide)
  have b3 : ixsM 2 t (.int .i64 0) = some (elp 2 t .i64 0) := st.ixs (i := 0) (by decide)
  have l1 : ldM r.2 true 2 (elp 2 r.1 .i64 0) = some (valP (1, 3)) := sr.ld (i := 0) (by decide)
  have l2 : ldM r.2 false 1 (elp 1 s .i64 2) = some (.int .i64 5) := ss.ld (i := 2) (by decide)
  have l3 : ldM r.2 true 2 (elp 2 t .i64 0) = some (valP (2, 4)) := st.ld (i := 0) (by decide)
  have li : lit3M [AV.int .i64 0, .int .i64 0] (.agg [.int .i64 3, .int .i64 1]) (.agg [.int .i64 1, .int .i64 3]) (.agg [.int .i64 2, .int .i64 2]) = some (.fs ([(3, 1), (1, 3), (2, 2)].map encP) true) := rfl
  have li2 : lit2M [AV.int .i64 0, .int .i64 0] (.agg [.int .i64 1, .int .i64 3]) (.agg [.int .i64 3, .int .i64 5]) = some (.fs ([(1, 3), (3, 5)].map encP) true) := rfl
  have li3 : lit2M [AV.int .i64 0, .int .i64 0] (.agg [.int .i64 1, .int .i64 3]) (.agg [.int .i64 2, .int .i64 4]) = some (.fs ([(1, 3), (2, 4)].map encP) true) := rfl
  have li4 : lit1M [AV.int .i64 0] (.int .i64 3) = some (.fs ([3].map encI) true) := rfl
  have li5 : lit1M [AV.int .i64 0, .int .i64 0] (.agg [.int .i64 1, .int .i64 3]) = some (.fs ([(1, 3)].map encP) true) := rfl
  have v13 : valP (1, 3) = .agg [.int .i64 1, .int .i64 3] := rfl
  have v24 : valP (2, 4) = .agg [.int .i64 2, .int .i64 4] := rfl
  rw [v13] at l1
  rw [v24] at l3
  simp (disch := omega) only [RK_seq, RK_region0, RK_block, RK_cond, RK_skip, RK_ret, RK_exit, RE_seq, RE_seq_exit, RE_seq_ret, RE_block, RE_block_ret, RE_block_exit, RE_nil, RO_mv, RO_len, RO_bin, RO_binb, RO_un, RO_pick, RO_ixs, RO_fld, RO_part, RO_ixa, RO_ixv, RO_eqa, RO_eqn, RO_mx2, RO_mn2, RO_build2, RO_lit0, RO_lit1, RO_lit2, RO_mkfn0, RO_mkfn1, RO_cap, RO_slice_l, RO_slice_h, RO_slice_lh, RO_box, RO_alloc, RO_store, RO_clear, RO_callv0, RO_callv1, RO_callv2, RO_append, RO_load, RO_callf0, RO_callf1, RO_callf2, RO_callf3, RO_callf4, RO_guard, RO_nil, put_fr, opd_t, opd_c, upd_eq', upd_ne, ne_eq, ↓OM_some, ↓OM_none, ↓CM_bool, ↓CB_true, ↓CB_false, ↓GM_t, ↓GM_f, ↓GM_tup, OM_some, OM_none, CM_bool, CB_true, CB_false, GM_t, GM_f, GM_tup, reduceIte, reduceCtorEq, Nat.reduceLT, Nat.reduceEqDiff, not_false_eq_true, not_true_eq_false, bin_add, bin_sub, bin_mul, bin_eql, bin_neq, bin_lss, bin_leq, bin_gtr, bin_geq, bin_seql, bin_sneq, binb_eql, binb_neq, un_not, un_neg, pick_t, pick_f, mn_2, mx_2, len_nils, len_fs, len_row, eqa_2, bld2_int, lit2_int, decide_true, decide_false, Bool.not_true, Bool.not_false, Bool.false_eq_true, List.length_map, List.getD_cons_zero, List.getD_cons_succ, List.getD_nil, c6_r0, c6_r1, RO_lit3, li, p1]
  simp (disch := omega) only [RK_seq, RK_region0, RK_block, RK_cond, RK_skip, RK_ret, RK_exit, RE_seq, RE_seq_exit, RE_seq_ret, RE_block, RE_block_ret, RE_block_exit, RE_nil, RO_mv, RO_len, RO_bin, RO_binb, RO_un, RO_pick, RO_ixs, RO_fld, RO_part, RO_ixa, RO_ixv, RO_eqa, RO_eqn, RO_mx2, RO_mn2, RO_build2, RO_lit0, RO_lit1, RO_lit2, RO_mkfn0, RO_mkfn1, RO_cap, RO_slice_l, RO_slice_h, RO_slice_lh, RO_box, RO_alloc, RO_store, RO_clear, RO_callv0, RO_callv1, RO_callv2, RO_append, RO_load, RO_callf0, RO_callf1, RO_callf2, RO_callf3, RO_callf4, RO_guard, RO_nil, put_fr, opd_t, opd_c, upd_eq', upd_ne, ne_eq, ↓OM_some, ↓OM_none, ↓CM_bool, ↓CB_true, ↓CB_false, ↓GM_t, ↓GM_f, ↓GM_tup, OM_some, OM_none, CM_bool, CB_true, CB_false, GM_t, GM_f, GM_tup, reduceIte, reduceCtorEq, Nat.reduceLT, Nat.reduceEqDiff, not_false_eq_true, not_true_eq_false, bin_add, bin_sub, bin_mul, bin_eql, bin_neq, bin_lss, bin_leq, bin_gtr, bin_geq, bin_seql, bin_sneq, binb_eql, binb_neq, un_not, un_neg, pick_t, pick_f, mn_2, mx_2, len_nils, len_fs, len_row, eqa_2, bld2_int, lit2_int, decide_true, decide_false, Bool.not_true, Bool.not_false, Bool.false_eq_true, List.length_map, List.getD_cons_zero, List.getD_cons_succ, List.getD_nil, c6_r2, li2, li4, q1]
  simp (disch := omega) only [RK_seq, RK_region0, RK_block, RK_cond, RK_skip, RK_ret, RK_exit, RE_seq, RE_seq_exit, RE_seq_ret, RE_block, RE_block_ret, RE_block_exit, RE_nil, RO_mv, RO_len, RO_bin, RO_binb, RO_un, RO_pick, RO_ixs, RO_fld, RO_part, RO_ixa, RO_ixv, RO_eqa, RO_eqn, RO_mx2, RO_mn2, RO_build2, RO_lit0, RO_lit1, RO_lit2, RO_mkfn0, RO_mkfn1, RO_cap, RO_slice_l, RO_slice_h, RO_slice_lh, RO_box, RO_alloc, RO_store, RO_clear, RO_callv0, RO_callv1, RO_callv2, RO_append, RO_load, RO_callf0, RO_callf1, RO_callf2, RO_callf3, RO_callf4, RO_guard, RO_nil, put_fr, opd_t, opd_c, upd_eq', upd_ne, ne_eq, ↓OM_some, ↓OM_none, ↓CM_bool, ↓CB_true, ↓CB_false, ↓GM_t, ↓GM_f, ↓GM_tup, OM_some, OM_none, CM_bool, CB_true, CB_false, GM_t, GM_f, GM_tup, reduceIte, reduceCtorEq, Nat.reduceLT, Nat.reduceEqDiff, not_false_eq_true, not_true_eq_false, bin_add, bin_sub, bin_mul, bin_eql, bin_neq, bin_lss, bin_leq, bin_gtr, bin_geq, bin_seql, bin_sneq, binb_eql, binb_neq, un_not, un_neg, pick_t, pick_f, mn_2, mx_2, len_nils, len_fs, len_row, eqa_2, bld2_int, lit2_int, decide_true, decide_false, Bool.not_true, Bool.not_false, Bool.false_eq_true, List.length_map, List.getD_cons_zero, List.getD_cons_succ, List.getD_nil, c6_r3, li3, li4, t1]
  simp (disch := omega) only [RK_seq, RK_region0, RK_block, RK_cond, RK_skip, RK_ret, RK_exit, RE_seq, RE_seq_exit, RE_seq_ret, RE_block, RE_block_ret, RE_block_exit, RE_nil, RO_mv, RO_len, RO_bin, RO_binb, RO_un, RO_pick, RO_ixs, RO_fld, RO_part, RO_ixa, RO_ixv, RO_eqa, RO_eqn, RO_mx2, RO_mn2, RO_build2, RO_lit0, RO_lit1, RO_lit2, RO_mkfn0, RO_mkfn1, RO_cap, RO_slice_l, RO_slice_h, RO_slice_lh, RO_box, RO_alloc, RO_store, RO_clear, RO_callv0, RO_callv1, RO_callv2, RO_append, RO_load, RO_callf0, RO_callf1, RO_callf2, RO_callf3, RO_callf4, RO_guard, RO_nil, put_fr, opd_t, opd_c, upd_eq', upd_ne, ne_eq, ↓OM_some, ↓OM_none, ↓CM_bool, ↓CB_true, ↓CB_false, ↓GM_t, ↓GM_f, ↓GM_tup, OM_some, OM_none, CM_bool, CB_true, CB_false, GM_t, GM_f, GM_tup, reduceIte, reduceCtorEq, Nat.reduceLT, Nat.reduceEqDiff, not_false_eq_true, not_true_eq_false, bin_add, bin_sub, bin_mul, bin_eql, bin_neq, bin_lss, bin_leq, bin_gtr, bin_geq, bin_seql, bin_sneq, binb_eql, binb_neq, un_not, un_neg, pick_t, pick_f, mn_2, mx_2, len_nils, len_fs, len_row, eqa_2, bld2_int, lit2_int, decide_true, decide_false, Bool.not_true, Bool.not_false, Bool.false_eq_true, List.length_map, List.getD_cons_zero, List.getD_cons_succ, List.getD_nil, c6_r4, eq_self, Bool.bne_false, Bool.and_self, Bool.and_true, li5, a1, a2, a3, b1, b2, b3, l1, l2, l3, g, FinQ_ret, res_t]
end Go.Proofs.Tryt17A
end
