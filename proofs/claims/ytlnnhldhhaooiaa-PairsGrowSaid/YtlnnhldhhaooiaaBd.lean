import Derived.Test.YtlnnhldhhaooiaaBc

set_option linter.unusedVariables false
set_option linter.unusedSimpArgs false
set_option linter.unusedSectionVars false
set_option linter.unnecessarySimpa false

section
namespace Go.Proofs.Tryt17A
open Go Go.AM
set_option linter.unusedSimpArgs false
set_option linter.unusedVariables false
variable {p23 p36 : Nat → List AV → Heap → Option (AV × Heap)} {cx : Ctx} {H : Heap}

def valP (p : Int × Int) : AV := .agg (encP p)
def valI (n : Int) : AV := .int .i64 n

theorem eqP {x y : Int × Int} : eqaM false [1, 1] (valP x) (valP y) = some (.bool (decide (x = y))) := by
  simp only [valP, encP, eqa_2]
  rw [show decide (x = y) = (decide (x.1 = y.1) && decide (x.2 = y.2)) from by rw [← Bool.decide_and, decide_eq_decide, Prod.ext_iff]]
  simp
theorem neqP {x y : Int × Int} : eqaM true [1, 1] (valP x) (valP y) = some (.bool (!decide (x = y))) := by
  simp only [valP, encP, eqa_2]
  rw [show decide (x = y) = (decide (x.1 = y.1) && decide (x.2 = y.2)) from by rw [← Bool.decide_and, decide_eq_decide, Prod.ext_iff]]
  simp
theorem eqI {x y : Int} : binM .eql (valI x) (valI y) = some (.bool (decide (x = y))) := by simp only [valI, bin_eql]
theorem neqI {x y : Int} : binM .neq (valI x) (valI y) = some (.bool (!decide (x = y))) := by simp only [valI, bin_neq]

theorem cellsP {x : (Int × Int)} : (valP x).cells = some (encP x) := rfl
theorem lenP {x : (Int × Int)} : (encP x).length = 2 := rfl
theorem allP {x : (Int × Int)} : (encP x).all AV.one = true := rfl
theorem lensP (l : List (Int × Int)) : ∀ e ∈ l.map encP, e.length = 2 := by
  intro e he
  obtain ⟨x, _, rfl⟩ := List.mem_map.1 he
  rfl
theorem getP (l : List (Int × Int)) (i : Nat) (h : i < l.length) : (l.map encP).getD i [] = encP l[i] := by
  simp [List.getD_eq_getElem?_getD, h]
theorem partP {x : (Int × Int)} : partOf true 0 2 (encP x) = some (valP x) := by simp [partOf, encP, valP]
theorem ldvP {sl : AV} {l : List (Int × Int)} (hs : Sl 2 H sl (l.map encP)) {i : Nat} (hi : i < l.length) : ldM H true 2 (elp 2 sl .i64 i) = some (valP l[i]) := by
  rw [hs.ld (by simpa using hi), getP l i hi, partP]

/-! ### IndexFunc -/
def ixFP (p : (Int × Int) → Bool) (l : List (Int × Int)) (i : Nat) : Int := if h : i < l.length then (if p l[i] then (i : Int) else ixFP p l (i + 1)) else -1
termination_by l.length - i

theorem ixf_loopP (p : (Int × Int) → Bool) (l : List (Int × Int)) (sl : AV) (g : Nat) (cap : List AV) (hs : Sl 2 H sl (l.map encP)) (hl : l.length < 4611686018427387904)
    (hp : ∀ x, callF (T p23 p36) (ev (T p23 p36)) ⟨H.length, none⟩ g (valP x :: cap) H = some (.bool (p x), H)) (Q : Ex → St → Prop)
    (q0 : ixFP p l 0 = -1 → ∀ f', Q (.exit 0) ⟨mkfr 19 f', [], H⟩) (q1 : ∀ f', f' 4 = .int .i64 (ixFP p l 0) → Q .ret ⟨mkfr 19 f', [], H⟩)
    (f : Nat → AV) (h0 : f 0 = sl) (h1 : f 1 = .fn g cap) (h7 : f 7 = .int .i64 l.length) (i : Nat) (hi : i ≤ l.length) (h8 : f 8 = .int .i64 i) (hin : ixFP p l 0 = ixFP p l i) :
    R (T p23 p36) ⟨H.length, none⟩ c44_l0 ⟨mkfr 19 f, [], H⟩ Q := by
  have hm := List.length_map (as := l) encP
  rw [c44_l0, R_loop, ← c44_l0, c44_lb0]
  by_cases hlt : i < l.length
  · have e1 : ((i : Int) < (l.length : Int)) = True := by simp; omega
    conv at hin => rhs; rw [ixFP, dif_pos hlt]
    cases hx : p l[i]
    · simp (disch := omega) only [RK_seq, RK_region0, RK_block, RK_cond, RK_skip, RK_ret, RK_exit, RE_seq, RE_seq_exit, RE_seq_ret, RE_block, RE_block_ret, RE_block_exit, RE_nil, RO_mv, RO_len, RO_bin, RO_binb, RO_un, RO_pick, RO_ixs, RO_fld, RO_part, RO_ixa, RO_ixv, RO_eqa, RO_eqn, RO_mx2, RO_mn2, RO_build2, RO_lit0, RO_lit1, RO_lit2, RO_mkfn0, RO_mkfn1, RO_cap, RO_slice_l, RO_slice_h, RO_slice_lh, RO_box, RO_alloc, RO_store, RO_clear, RO_callv0, RO_callv1, RO_callv2, RO_append, RO_load, RO_callf0, RO_callf1, RO_callf2, RO_callf3, RO_callf4, RO_guard, RO_nil, put_fr, opd_t, opd_c, upd_eq', upd_ne, ne_eq, ↓OM_some, ↓OM_none, ↓CM_bool, ↓CB_true, ↓CB_false, ↓GM_t, ↓GM_f, ↓GM_tup, OM_some, OM_none, CM_bool, CB_true, CB_false, GM_t, GM_f, GM_tup, reduceIte, reduceCtorEq, Nat.reduceLT, Nat.reduceEqDiff, not_false_eq_true, not_true_eq_false, bin_add, bin_sub, bin_mul, bin_eql, bin_neq, bin_lss, bin_leq, bin_gtr, bin_geq, bin_seql, bin_sneq, binb_eql, binb_neq, un_not, un_neg, pick_t, pick_f, mn_2, mx_2, len_nils, len_fs, len_row, eqa_2, bld2_int, lit2_int, decide_true, decide_false, Bool.not_true, Bool.not_false, Bool.false_eq_true, List.length_map, List.getD_cons_zero, List.getD_cons_succ, List.getD_nil, c44_r2, c44_r3, c44_r4, c44_r6, h0, h1, h7, h8, e1, hs.ixs, ldvP hs hlt, cvM_fn, List.cons_append, List.nil_append, hp, hx, wrap64]
      exact ixf_loopP p l sl g cap hs hl hp Q q0 q1 _ (by simp [upd', h0]) (by simp [upd', h1]) (by simp [upd', h7]) (i + 1) (by omega) (by simp [upd']) (by simpa [hx] using hin)
    · simp (disch := omega) only [RK_seq, RK_region0, RK_block, RK_cond, RK_skip, RK_ret, RK_exit, RE_seq, RE_seq_exit, RE_seq_ret, RE_block, RE_block_ret, RE_block_exit, RE_nil, RO_mv, RO_len, RO_bin, RO_binb, RO_un, RO_pick, RO_ixs, RO_fld, RO_part, RO_ixa, RO_ixv, RO_eqa, RO_eqn, RO_mx2, RO_mn2, RO_build2, RO_lit0, RO_lit1, RO_lit2, RO_mkfn0, RO_mkfn1, RO_cap, RO_slice_l, RO_slice_h, RO_slice_lh, RO_box, RO_alloc, RO_store, RO_clear, RO_callv0, RO_callv1, RO_callv2, RO_append, RO_load, RO_callf0, RO_callf1, RO_callf2, RO_callf3, RO_callf4, RO_guard, RO_nil, put_fr, opd_t, opd_c, upd_eq', upd_ne, ne_eq, ↓OM_some, ↓OM_none, ↓CM_bool, ↓CB_true, ↓CB_false, ↓GM_t, ↓GM_f, ↓GM_tup, OM_some, OM_none, CM_bool, CB_true, CB_false, GM_t, GM_f, GM_tup, reduceIte, reduceCtorEq, Nat.reduceLT, Nat.reduceEqDiff, not_false_eq_true, not_true_eq_false, bin_add, bin_sub, bin_mul, bin_eql, bin_neq, bin_lss, bin_leq, bin_gtr, bin_geq, bin_seql, bin_sneq, binb_eql, binb_neq, un_not, un_neg, pick_t, pick_f, mn_2, mx_2, len_nils, len_fs, len_row, eqa_2, bld2_int, lit2_int, decide_true, decide_false, Bool.not_true, Bool.not_false, Bool.false_eq_true, List.length_map, List.getD_cons_zero, List.getD_cons_succ, List.getD_nil, c44_r2, c44_r3, c44_r4, c44_r5, h0, h1, h7, h8, e1, hs.ixs, ldvP hs hlt, cvM_fn, List.cons_append, List.nil_append, hp, hx]
      exact q1 _ (by simp [upd', hin, hx])
  · have : i = l.length := by omega
    subst this
    simp (disch := omega) only [RK_seq, RK_region0, RK_block, RK_cond, RK_skip, RK_ret, RK_exit, RE_seq, RE_seq_exit, RE_seq_ret, RE_block, RE_block_ret, RE_block_exit, RE_nil, RO_mv, RO_len, RO_bin, RO_binb, RO_un, RO_pick, RO_ixs, RO_fld, RO_part, RO_ixa, RO_ixv, RO_eqa, RO_eqn, RO_mx2, RO_mn2, RO_build2, RO_lit0, RO_lit1, RO_lit2, RO_mkfn0, RO_mkfn1, RO_cap, RO_slice_l, RO_slice_h, RO_slice_lh, RO_box, RO_alloc, RO_store, RO_clear, RO_callv0, RO_callv1, RO_callv2, RO_append, RO_load, RO_callf0, RO_callf1, RO_callf2, RO_callf3, RO_callf4, RO_guard, RO_nil, put_fr, opd_t, opd_c, upd_eq', upd_ne, ne_eq, ↓OM_some, ↓OM_none, ↓CM_bool, ↓CB_true, ↓CB_false, ↓GM_t, ↓GM_f, ↓GM_tup, OM_some, OM_none, CM_bool, CB_true, CB_false, GM_t, GM_f, GM_tup, reduceIte, reduceCtorEq, Nat.reduceLT, Nat.reduceEqDiff, not_false_eq_true, not_true_eq_false, bin_add, bin_sub, bin_mul, bin_eql, bin_neq, bin_lss, bin_leq, bin_gtr, bin_geq, bin_seql, bin_sneq, binb_eql, binb_neq, un_not, un_neg, pick_t, pick_f, mn_2, mx_2, len_nils, len_fs, len_row, eqa_2, bld2_int, lit2_int, decide_true, decide_false, Bool.not_true, Bool.not_false, Bool.false_eq_true, List.length_map, List.getD_cons_zero, List.getD_cons_succ, List.getD_nil, c44_r2, h7, h8, Int.lt_irrefl]
    exact q0 (by rw [hin, ixFP, dif_neg (Nat.lt_irrefl _)]) _
termination_by l.length - i

theorem ixf_specP (p : (Int × Int) → Bool) (l : List (Int × Int)) (sl : AV) (g : Nat) (cap : List AV) (hs : Sl 2 H sl (l.map encP)) (hl : l.length < 4611686018427387904)
    (hp : ∀ x, callF (T p23 p36) (ev (T p23 p36)) ⟨H.length, none⟩ g (valP x :: cap) H = some (.bool (p x), H)) (hw : cx.wp ≤ H.length) :
    callF (T p23 p36) (ev (T p23 p36)) cx 44 [sl, .fn g cap] H = some (.int .i64 (ixFP p l 0), H) := by
  refine callF_code2 (a := a44) rfl rfl hw (Nat.le_of_ble_eq_true rfl) rfl ?_
  simp only [a44, c44]
  simp (disch := omega) only [RK_seq, RK_region0, RK_block, RK_cond, RK_skip, RK_ret, RK_exit, RE_seq, RE_seq_exit, RE_seq_ret, RE_block, RE_block_ret, RE_block_exit, RE_nil, RO_mv, RO_len, RO_bin, RO_binb, RO_un, RO_pick, RO_ixs, RO_fld, RO_part, RO_ixa, RO_ixv, RO_eqa, RO_eqn, RO_mx2, RO_mn2, RO_build2, RO_lit0, RO_lit1, RO_lit2, RO_mkfn0, RO_mkfn1, RO_cap, RO_slice_l, RO_slice_h, RO_slice_lh, RO_box, RO_alloc, RO_store, RO_clear, RO_callv0, RO_callv1, RO_callv2, RO_append, RO_load, RO_callf0, RO_callf1, RO_callf2, RO_callf3, RO_callf4, RO_guard, RO_nil, put_fr, opd_t, opd_c, upd_eq', upd_ne, ne_eq, ↓OM_some, ↓OM_none, ↓CM_bool, ↓CB_true, ↓CB_false, ↓GM_t, ↓GM_f, ↓GM_tup, OM_some, OM_none, CM_bool, CB_true, CB_false, GM_t, GM_f, GM_tup, reduceIte, reduceCtorEq, Nat.reduceLT, Nat.reduceEqDiff, not_false_eq_true, not_true_eq_false, bin_add, bin_sub, bin_mul, bin_eql, bin_neq, bin_lss, bin_leq, bin_gtr, bin_geq, bin_seql, bin_sneq, binb_eql, binb_neq, un_not, un_neg, pick_t, pick_f, mn_2, mx_2, len_nils, len_fs, len_row, eqa_2, bld2_int, lit2_int, decide_true, decide_false, Bool.not_true, Bool.not_false, Bool.false_eq_true, List.length_map, List.getD_cons_zero, List.getD_cons_succ, List.getD_nil, c44_r0, c44_r1, hs.len]
  refine ixf_loopP p l sl g cap hs hl hp _ (fun h f' => ?_) (fun f' h4 => ?_) _ (by simp [upd']) (by simp [upd']) (by simp [upd']) 0 (Nat.zero_le _) (by simp [upd']) rfl
  · simp (disch := omega) only [RK_seq, RK_region0, RK_block, RK_cond, RK_skip, RK_ret, RK_exit, RE_seq, RE_seq_exit, RE_seq_ret, RE_block, RE_block_ret, RE_block_exit, RE_nil, RO_mv, RO_len, RO_bin, RO_binb, RO_un, RO_pick, RO_ixs, RO_fld, RO_part, RO_ixa, RO_ixv, RO_eqa, RO_eqn, RO_mx2, RO_mn2, RO_build2, RO_lit0, RO_lit1, RO_lit2, RO_mkfn0, RO_mkfn1, RO_cap, RO_slice_l, RO_slice_h, RO_slice_lh, RO_box, RO_alloc, RO_store, RO_clear, RO_callv0, RO_callv1, RO_callv2, RO_append, RO_load, RO_callf0, RO_callf1, RO_callf2, RO_callf3, RO_callf4, RO_guard, RO_nil, put_fr, opd_t, opd_c, upd_eq', upd_ne, ne_eq, ↓OM_some, ↓OM_none, ↓CM_bool, ↓CB_true, ↓CB_false, ↓GM_t, ↓GM_f, ↓GM_tup, OM_some, OM_none, CM_bool, CB_true, CB_false, GM_t, GM_f, GM_tup, reduceIte, reduceCtorEq, Nat.reduceLT, Nat.reduceEqDiff, not_false_eq_true, not_true_eq_false, bin_add, bin_sub, bin_mul, bin_eql, bin_neq, bin_lss, bin_leq, bin_gtr, bin_geq, bin_seql, bin_sneq, binb_eql, binb_neq, un_not, un_neg, pick_t, pick_f, mn_2, mx_2, len_nils, len_fs, len_row, eqa_2, bld2_int, lit2_int, decide_true, decide_false, Bool.not_true, Bool.not_false, Bool.false_eq_true, List.length_map, List.getD_cons_zero, List.getD_cons_succ, List.getD_nil, c44_r7, FinQ_ret, res_t, h]
  · simp (disch := omega) only [RK_seq, RK_region0, RK_block, RK_cond, RK_skip, RK_ret, RK_exit, RE_seq, RE_seq_exit, RE_seq_ret, RE_block, RE_block_ret, RE_block_exit, RE_nil, RO_mv, RO_len, RO_bin, RO_binb, RO_un, RO_pick, RO_ixs, RO_fld, RO_part, RO_ixa, RO_ixv, RO_eqa, RO_eqn, RO_mx2, RO_mn2, RO_build2, RO_lit0, RO_lit1, RO_lit2, RO_mkfn0, RO_mkfn1, RO_cap, RO_slice_l, RO_slice_h, RO_slice_lh, RO_box, RO_alloc, RO_store, RO_clear, RO_callv0, RO_callv1, RO_callv2, RO_append, RO_load, RO_callf0, RO_callf1, RO_callf2, RO_callf3, RO_callf4, RO_guard, RO_nil, put_fr, opd_t, opd_c, upd_eq', upd_ne, ne_eq, ↓OM_some, ↓OM_none, ↓CM_bool, ↓CB_true, ↓CB_false, ↓GM_t, ↓GM_f, ↓GM_tup, OM_some, OM_none, CM_bool, CB_true, CB_false, GM_t, GM_f, GM_tup, reduceIte, reduceCtorEq, Nat.reduceLT, Nat.reduceEqDiff, not_false_eq_true, not_true_eq_false, bin_add, bin_sub, bin_mul, bin_eql, bin_neq, bin_lss, bin_leq, bin_gtr, bin_geq, bin_seql, bin_sneq, binb_eql, binb_neq, un_not, un_neg, pick_t, pick_f, mn_2, mx_2, len_nils, len_fs, len_row, eqa_2, bld2_int, lit2_int, decide_true, decide_false, Bool.not_true, Bool.not_false, Bool.false_eq_true, List.length_map, List.getD_cons_zero, List.getD_cons_succ, List.getD_nil, FinQ_ret, res_t, h4]

theorem ixFP_none (p : (Int × Int) → Bool) (l : List (Int × Int)) (i : Nat) : ixFP p l i = -1 ↔ ∀ x ∈ l.drop i, p x = false := by
  rw [ixFP]
  split
  · rename_i h
    rw [List.drop_eq_getElem_cons h]
    cases hx : p l[i]
    · simp only [Bool.false_eq_true, if_false, ixFP_none p l (i + 1), List.forall_mem_cons, hx, true_and]
    · simp only [if_true, List.forall_mem_cons, hx, Bool.true_eq_false, false_and, iff_false]
      omega
  · rw [List.drop_eq_nil_of_le (by omega)]; simp
termination_by l.length - i

theorem ixFP_some (p : (Int × Int) → Bool) (l : List (Int × Int)) (i : Nat) (h : ixFP p l i ≠ -1) : ∃ k : Nat, ixFP p l i = k ∧ i ≤ k ∧ ∃ hk : k < l.length, p l[k] = true ∧ ∀ j, i ≤ j → (hj : j < k) → p (l[j]'(by omega)) = false := by
  rw [ixFP] at h ⊢
  by_cases hi : i < l.length
  · rw [dif_pos hi] at h ⊢
    cases hx : p l[i]
    · rw [hx] at h
      simp only [Bool.false_eq_true, if_false] at h ⊢
      obtain ⟨k, h1, h2, hk, h3, h4⟩ := ixFP_some p l (i + 1) h
      exact ⟨k, h1, by omega, hk, h3, fun j hj hjk => by
        by_cases e : j = i
        · subst e; exact hx
        · exact h4 j (by omega) hjk⟩
    · exact ⟨i, by simp, Nat.le_refl _, hi, hx, fun j h1 h2 => by omega⟩
  · rw [dif_neg hi] at h; exact absurd rfl h
termination_by l.length - i

/-! ### Clone -/
theorem clone_nilP (hw : cx.wp ≤ H.length) : callF (T p23 p36) (ev (T p23 p36)) cx 29 [.nils] H = some (.nils, H) := by
  refine callF_code (a := a29) rfl hw (Nat.le_of_ble_eq_true rfl) ?_
  have e : ((isNilK 0 AV.nils).map fun t => AV.bool (t != false)) = some (.bool true) := by simp [isNilK]
  simp only [a29, c29]
  simp (disch := omega) only [RK_seq, RK_region0, RK_block, RK_cond, RK_skip, RK_ret, RK_exit, RE_seq, RE_seq_exit, RE_seq_ret, RE_block, RE_block_ret, RE_block_exit, RE_nil, RO_mv, RO_len, RO_bin, RO_binb, RO_un, RO_pick, RO_ixs, RO_fld, RO_part, RO_ixa, RO_ixv, RO_eqa, RO_eqn, RO_mx2, RO_mn2, RO_build2, RO_lit0, RO_lit1, RO_lit2, RO_mkfn0, RO_mkfn1, RO_cap, RO_slice_l, RO_slice_h, RO_slice_lh, RO_box, RO_alloc, RO_store, RO_clear, RO_callv0, RO_callv1, RO_callv2, RO_append, RO_load, RO_callf0, RO_callf1, RO_callf2, RO_callf3, RO_callf4, RO_guard, RO_nil, put_fr, opd_t, opd_c, upd_eq', upd_ne, ne_eq, ↓OM_some, ↓OM_none, ↓CM_bool, ↓CB_true, ↓CB_false, ↓GM_t, ↓GM_f, ↓GM_tup, OM_some, OM_none, CM_bool, CB_true, CB_false, GM_t, GM_f, GM_tup, reduceIte, reduceCtorEq, Nat.reduceLT, Nat.reduceEqDiff, not_false_eq_true, not_true_eq_false, bin_add, bin_sub, bin_mul, bin_eql, bin_neq, bin_lss, bin_leq, bin_gtr, bin_geq, bin_seql, bin_sneq, binb_eql, binb_neq, un_not, un_neg, pick_t, pick_f, mn_2, mx_2, len_nils, len_fs, len_row, eqa_2, bld2_int, lit2_int, decide_true, decide_false, Bool.not_true, Bool.not_false, Bool.false_eq_true, List.length_map, List.getD_cons_zero, List.getD_cons_succ, List.getD_nil, c29_r0, c29_r1, c29_r2, e, FinQ_ret, res_t]
  exact leave3 rfl (fun _ _ _ _ _ _ => by simp)
theorem cellsI {x : Int} : (valI x).cells = some (encI x) := rfl
theorem lenI {x : Int} : (encI x).length = 1 := rfl
theorem allI {x : Int} : (encI x).all AV.one = true := rfl
theorem lensI (l : List Int) : ∀ e ∈ l.map encI, e.length = 1 := by
  intro e he
  obtain ⟨x, _, rfl⟩ := List.mem_map.1 he
  rfl
theorem getI (l : List Int) (i : Nat) (h : i < l.length) : (l.map encI).getD i [] = encI l[i] := by
  simp [List.getD_eq_getElem?_getD, h]
theorem partI {x : Int} : partOf false 0 1 (encI x) = some (valI x) := by simp [partOf, encI, valI]
theorem ldvI {sl : AV} {l : List Int} (hs : Sl 1 H sl (l.map encI)) {i : Nat} (hi : i < l.length) : ldM H false 1 (elp 1 sl .i64 i) = some (valI l[i]) := by
  rw [hs.ld (by simpa using hi), getI l i hi, partI]

/-! ### IndexFunc -/
def ixFI (p : Int → Bool) (l : List Int) (i : Nat) : Int := if h : i < l.length then (if p l[i] then (i : Int) else ixFI p l (i + 1)) else -1
termination_by l.length - i

theorem ixf_loopI (p : Int → Bool) (l : List Int) (sl : AV) (g : Nat) (cap : List AV) (hs : Sl 1 H sl (l.map encI)) (hl : l.length < 4611686018427387904)
    (hp : ∀ x, callF (T p23 p36) (ev (T p23 p36)) ⟨H.length, none⟩ g (valI x :: cap) H = some (.bool (p x), H)) (Q : Ex → St → Prop)
    (q0 : ixFI p l 0 = -1 → ∀ f', Q (.exit 0) ⟨mkfr 19 f', [], H⟩) (q1 : ∀ f', f' 4 = .int .i64 (ixFI p l 0) → Q .ret ⟨mkfr 19 f', [], H⟩)
    (f : Nat → AV) (h0 : f 0 = sl) (h1 : f 1 = .fn g cap) (h7 : f 7 = .int .i64 l.length) (i : Nat) (hi : i ≤ l.length) (h8 : f 8 = .int .i64 i) (hin : ixFI p l 0 = ixFI p l i) :
    R (T p23 p36) ⟨H.length, none⟩ c46_l0 ⟨mkfr 19 f, [], H⟩ Q := by
  have hm := List.length_map (as := l) encI
  rw [c46_l0, R_loop, ← c46_l0, c46_lb0]
  by_cases hlt : i < l.length
  · have e1 : ((i : Int) < (l.length : Int)) = True := by simp; omega
    conv at hin => rhs; rw [ixFI, dif_pos hlt]
    cases hx : p l[i]
    · simp (disch := omega) only [RK_seq, RK_region0, RK_block, RK_cond, RK_skip, RK_ret, RK_exit, RE_seq, RE_seq_exit, RE_seq_ret, RE_block, RE_block_ret, RE_block_exit, RE_nil, RO_mv, RO_len, RO_bin, RO_binb, RO_un, RO_pick, RO_ixs, RO_fld, RO_part, RO_ixa, RO_ixv, RO_eqa, RO_eqn, RO_mx2, RO_mn2, RO_build2, RO_lit0, RO_lit1, RO_lit2, RO_mkfn0, RO_mkfn1, RO_cap, RO_slice_l, RO_slice_h, RO_slice_lh, RO_box, RO_alloc, RO_store, RO_clear, RO_callv0, RO_callv1, RO_callv2, RO_append, RO_load, RO_callf0, RO_callf1, RO_callf2, RO_callf3, RO_callf4, RO_guard, RO_nil, put_fr, opd_t, opd_c, upd_eq', upd_ne, ne_eq, ↓OM_some, ↓OM_none, ↓CM_bool, ↓CB_true, ↓CB_false, ↓GM_t, ↓GM_f, ↓GM_tup, OM_some, OM_none, CM_bool, CB_true, CB_false, GM_t, GM_f, GM_tup, reduceIte, reduceCtorEq, Nat.reduceLT, Nat.reduceEqDiff, not_false_eq_true, not_true_eq_false, bin_add, bin_sub, bin_mul, bin_eql, bin_neq, bin_lss, bin_leq, bin_gtr, bin_geq, bin_seql, bin_sneq, binb_eql, binb_neq, un_not, un_neg, pick_t, pick_f, mn_2, mx_2, len_nils, len_fs, len_row, eqa_2, bld2_int, lit2_int, decide_true, decide_false, Bool.not_true, Bool.not_false, Bool.false_eq_true, List.length_map, List.getD_cons_zero, List.getD_cons_succ, List.getD_nil, c46_r2, c46_r3, c46_r4, c46_r6, h0, h1, h7, h8, e1, hs.ixs, ldvI hs hlt, cvM_fn, List.cons_append, List.nil_append, hp, hx, wrap64]
      exact ixf_loopI p l sl g cap hs hl hp Q q0 q1 _ (by simp [upd', h0]) (by simp [upd', h1]) (by simp [upd', h7]) (i + 1) (by omega) (by simp [upd']) (by simpa [hx] using hin)
    · simp (disch := omega) only [RK_seq, RK_region0, RK_block, RK_cond, RK_skip, RK_ret, RK_exit, RE_seq, RE_seq_exit, RE_seq_ret, RE_block, RE_block_ret, RE_block_exit, RE_nil, RO_mv, RO_len, RO_bin, RO_binb, RO_un, RO_pick, RO_ixs, RO_fld, RO_part, RO_ixa, RO_ixv, RO_eqa, RO_eqn, RO_mx2, RO_mn2, RO_build2, RO_lit0, RO_lit1, RO_lit2, RO_mkfn0, RO_mkfn1, RO_cap, RO_slice_l, RO_slice_h, RO_slice_lh, RO_box, RO_alloc, RO_store, RO_clear, RO_callv0, RO_callv1, RO_callv2, RO_append, RO_load, RO_callf0, RO_callf1, RO_callf2, RO_callf3, RO_callf4, RO_guard, RO_nil, put_fr, opd_t, opd_c, upd_eq', upd_ne, ne_eq, ↓OM_some, ↓OM_none, ↓CM_bool, ↓CB_true, ↓CB_false, ↓GM_t, ↓GM_f, ↓GM_tup, OM_some, OM_none, CM_bool, CB_true, CB_false, GM_t, GM_f, GM_tup, reduceIte, reduceCtorEq, Nat.reduceLT, Nat.reduceEqDiff, not_false_eq_true, not_true_eq_false, bin_add, bin_sub, bin_mul, bin_eql, bin_neq, bin_lss, bin_leq, bin_gtr, bin_geq, bin_seql, bin_sneq, binb_eql, binb_neq, un_not, un_neg, pick_t, pick_f, mn_2, mx_2, len_nils, len_fs, len_row, eqa_2, bld2_int, lit2_int, decide_true, decide_false, Bool.not_true, Bool.not_false, Bool.false_eq_true, List.length_map, List.getD_cons_zero, List.getD_cons_succ, List.getD_nil, c46_r2, c46_r3, c46_r4, c46_r5, h0, h1, h7, h8, e1, hs.ixs, ldvI hs hlt, cvM_fn, List.cons_append, List.nil_append, hp, hx]
      exact q1 _ (by simp [upd', hin, hx])
  · have : i = l.length := by omega
    subst this
    simp (disch := omega) only [RK_seq, RK_region0, RK_block, RK_cond, RK_skip, RK_ret, RK_exit, RE_seq, RE_seq_exit, RE_seq_ret, RE_block, RE_block_ret, RE_block_exit, RE_nil, RO_mv, RO_len, RO_bin, RO_binb, RO_un, RO_pick, RO_ixs, RO_fld, RO_part, RO_ixa, RO_ixv, RO_eqa, RO_eqn, RO_mx2, RO_mn2, RO_build2, RO_lit0, RO_lit1, RO_lit2, RO_mkfn0, RO_mkfn1, RO_cap, RO_slice_l, RO_slice_h, RO_slice_lh, RO_box, RO_alloc, RO_store, RO_clear, RO_callv0, RO_callv1, RO_callv2, RO_append, RO_load, RO_callf0, RO_callf1, RO_callf2, RO_callf3, RO_callf4, RO_guard, RO_nil, put_fr, opd_t, opd_c, upd_eq', upd_ne, ne_eq, ↓OM_some, ↓OM_none, ↓CM_bool, ↓CB_true, ↓CB_false, ↓GM_t, ↓GM_f, ↓GM_tup, OM_some, OM_none, CM_bool, CB_true, CB_false, GM_t, GM_f, GM_tup, reduceIte, reduceCtorEq, Nat.reduceLT, Nat.reduceEqDiff, not_false_eq_true, not_true_eq_false, bin_add, bin_sub, bin_mul, bin_eql, bin_neq, bin_lss, bin_leq, bin_gtr, bin_geq, bin_seql, bin_sneq, binb_eql, binb_neq, un_not, un_neg, pick_t, pick_f, mn_2, mx_2, len_nils, len_fs, len_row, eqa_2, bld2_int, lit2_int, decide_true, decide_false, Bool.not_true, Bool.not_false, Bool.false_eq_true, List.length_map, List.getD_cons_zero, List.getD_cons_succ, List.getD_nil, c46_r2, h7, h8, Int.lt_irrefl]
    exact q0 (by rw [hin, ixFI, dif_neg (Nat.lt_irrefl _)]) _
termination_by l.length - i

theorem ixf_specI (p : Int → Bool) (l : List Int) (sl : AV) (g : Nat) (cap : List AV) (hs : Sl 1 H sl (l.map encI)) (hl : l.length < 4611686018427387904)
    (hp : ∀ x, callF (T p23 p36) (ev (T p23 p36)) ⟨H.length, none⟩ g (valI x :: cap) H = some (.bool (p x), H)) (hw : cx.wp ≤ H.length) :
    callF (T p23 p36) (ev (T p23 p36)) cx 46 [sl, .fn g cap] H = some (.int .i64 (ixFI p l 0), H) := by
  refine callF_code2 (a := a46) rfl rfl hw (Nat.le_of_ble_eq_true rfl) rfl ?_
  simp only [a46, c46]
  simp (disch := omega) only [RK_seq, RK_region0, RK_block, RK_cond, RK_skip, RK_ret, RK_exit, RE_seq, RE_seq_exit, RE_seq_ret, RE_block, RE_block_ret, RE_block_exit, RE_nil, RO_mv, RO_len, RO_bin, RO_binb, RO_un, RO_pick, RO_ixs, RO_fld, RO_part, RO_ixa, RO_ixv, RO_eqa, RO_eqn, RO_mx2, RO_mn2, RO_build2, RO_lit0, RO_lit1, RO_lit2, RO_mkfn0, RO_mkfn1, RO_cap, RO_slice_l, RO_slice_h, RO_slice_lh, RO_box, RO_alloc, RO_store, RO_clear, RO_callv0, RO_callv1, RO_callv2, RO_append, RO_load, RO_callf0, RO_callf1, RO_callf2, RO_callf3, RO_callf4, RO_guard, RO_nil, put_fr, opd_t, opd_c, upd_eq', upd_ne, ne_eq, ↓OM_some, ↓OM_none, ↓CM_bool, ↓CB_true, ↓CB_false, ↓GM_t, ↓GM_f, ↓GM_tup, OM_some, OM_none, CM_bool, CB_true, CB_false, GM_t, GM_f, GM_tup, reduceIte, reduceCtorEq, Nat.reduceLT, Nat.reduceEqDiff, not_false_eq_true, not_true_eq_false, bin_add, bin_sub, bin_mul, bin_eql, bin_neq, bin_lss, bin_leq, bin_gtr, bin_geq, bin_seql, bin_sneq, binb_eql, binb_neq, un_not, un_neg, pick_t, pick_f, mn_2, mx_2, len_nils, len_fs, len_row, eqa_2, bld2_int, lit2_int, decide_true, decide_false, Bool.not_true, Bool.not_false, Bool.false_eq_true, List.length_map, List.getD_cons_zero, List.getD_cons_succ, List.getD_nil, c46_r0, c46_r1, hs.len]
  refine ixf_loopI p l sl g cap hs hl hp _ (fun h f' => ?_) (fun f' h4 => ?_) _ (by simp [upd']) (by simp [upd']) (by simp [upd']) 0 (Nat.zero_le _) (by simp [upd']) rfl
  · simp (disch := omega) only [RK_seq, RK_region0, RK_block, RK_cond, RK_skip, RK_ret, RK_exit, RE_seq, RE_seq_exit, RE_seq_ret, RE_block, RE_block_ret, RE_block_exit, RE_nil, RO_mv, RO_len, RO_bin, RO_binb, RO_un, RO_pick, RO_ixs, RO_fld, RO_part, RO_ixa, RO_ixv, RO_eqa, RO_eqn, RO_mx2, RO_mn2, RO_build2, RO_lit0, RO_lit1, RO_lit2, RO_mkfn0, RO_mkfn1, RO_cap, RO_slice_l, RO_slice_h, RO_slice_lh, RO_box, RO_alloc, RO_store, RO_clear, RO_callv0, RO_callv1, RO_callv2, RO_append, RO_load, RO_callf0, RO_callf1, RO_callf2, RO_callf3, RO_callf4, RO_guard, RO_nil, put_fr, opd_t, opd_c, upd_eq', upd_ne, ne_eq, ↓OM_some, ↓OM_none, ↓CM_bool, ↓CB_true, ↓CB_false, ↓GM_t, ↓GM_f, ↓GM_tup, OM_some, OM_none, CM_bool, CB_true, CB_false, GM_t, GM_f, GM_tup, reduceIte, reduceCtorEq, Nat.reduceLT, Nat.reduceEqDiff, not_false_eq_true, not_true_eq_false, bin_add, bin_sub, bin_mul, bin_eql, bin_neq, bin_lss, bin_leq, bin_gtr, bin_geq, bin_seql, bin_sneq, binb_eql, binb_neq, un_not, un_neg, pick_t, pick_f, mn_2, mx_2, len_nils, len_fs, len_row, eqa_2, bld2_int, lit2_int, decide_true, decide_false, Bool.not_true, Bool.not_false, Bool.false_eq_true, List.length_map, List.getD_cons_zero, List.getD_cons_succ, List.getD_nil, c46_r7, FinQ_ret, res_t, h]
  · simp (disch := omega) only [RK_seq, RK_region0, RK_block, RK_cond, RK_skip, RK_ret, RK_exit, RE_seq, RE_seq_exit, RE_seq_ret, RE_block, RE_block_ret, RE_block_exit, RE_nil, RO_mv, RO_len, RO_bin, RO_binb, RO_un, RO_pick, RO_ixs, RO_fld, RO_part, RO_ixa, RO_ixv, RO_eqa, RO_eqn, RO_mx2, RO_mn2, RO_build2, RO_lit0, RO_lit1, RO_lit2, RO_mkfn0, RO_mkfn1, RO_cap, RO_slice_l, RO_slice_h, RO_slice_lh, RO_box, RO_alloc, RO_store, RO_clear, RO_callv0, RO_callv1, RO_callv2, RO_append, RO_load, RO_callf0, RO_callf1, RO_callf2, RO_callf3, RO_callf4, RO_guard, RO_nil, put_fr, opd_t, opd_c, upd_eq', upd_ne, ne_eq, ↓OM_some, ↓OM_none, ↓CM_bool, ↓CB_true, ↓CB_false, ↓GM_t, ↓GM_f, ↓GM_tup, OM_some, OM_none, CM_bool, CB_true, CB_false, GM_t, GM_f, GM_tup, reduceIte, reduceCtorEq, Nat.reduceLT, Nat.reduceEqDiff, not_false_eq_true, not_true_eq_false, bin_add, bin_sub, bin_mul, bin_eql, bin_neq, bin_lss, bin_leq, bin_gtr, bin_geq, bin_seql, bin_sneq, binb_eql, binb_neq, un_not, un_neg, pick_t, pick_f, mn_2, mx_2, len_nils, len_fs, len_row, eqa_2, bld2_int, lit2_int, decide_true, decide_false, Bool.not_true, Bool.not_false, Bool.false_eq_true, List.length_map, List.getD_cons_zero, List.getD_cons_succ, List.getD_nil, FinQ_ret, res_t, h4]

theorem ixFI_none (p : Int → Bool) (l : List Int) (i : Nat) : ixFI p l i = -1 ↔ ∀ x ∈ l.drop i, p x = false := by
  rw [ixFI]
  split
  · rename_i h
    rw [List.drop_eq_getElem_cons h]
    cases hx : p l[i]
    · simp only [Bool.false_eq_true, if_false, ixFI_none p l (i + 1), List.forall_mem_cons, hx, true_and]
    · simp only [if_true, List.forall_mem_cons, hx, Bool.true_eq_false, false_and, iff_false]
      omega
  · rw [List.drop_eq_nil_of_le (by omega)]; simp
termination_by l.length - i

theorem ixFI_some (p : Int → Bool) (l : List Int) (i : Nat) (h : ixFI p l i ≠ -1) : ∃ k : Nat, ixFI p l i = k ∧ i ≤ k ∧ ∃ hk : k < l.length, p l[k] = true ∧ ∀ j, i ≤ j → (hj : j < k) → p (l[j]'(by omega)) = false := by
  rw [ixFI] at h ⊢
  by_cases hi : i < l.length
  · rw [dif_pos hi] at h ⊢
    cases hx : p l[i]
    · rw [hx] at h
      simp only [Bool.false_eq_true, if_false] at h ⊢
      obtain ⟨k, h1, h2, hk, h3, h4⟩ := ixFI_some p l (i + 1) h
      exact ⟨k, h1, by omega, hk, h3, fun j hj hjk => by
        by_cases e : j = i
        · subst e; exact hx
        · exact h4 j (by omega) hjk⟩
    · exact ⟨i, by simp, Nat.le_refl _, hi, hx, fun j h1 h2 => by omega⟩
  · rw [dif_neg hi] at h; exact absurd rfl h
termination_by l.length - i

/-! ### Clone -/
theorem clone_nilI (hw : cx.wp ≤ H.length) : callF (T p23 p36) (ev (T p23 p36)) cx 33 [.nils] H = some (.nils, H) := by
  refine callF_code (a := a33) rfl hw (Nat.le_of_ble_eq_true rfl) ?_
  have e : ((isNilK 0 AV.nils).map fun t => AV.bool (t != false)) = some (.bool true) := by simp [isNilK]
  simp only [a33, c33]
  simp (disch := omega) only [RK_seq, RK_region0, RK_block, RK_cond, RK_skip, RK_ret, RK_exit, RE_seq, RE_seq_exit, RE_seq_ret, RE_block, RE_block_ret, RE_block_exit, RE_nil, RO_mv, RO_len, RO_bin, RO_binb, RO_un, RO_pick, RO_ixs, RO_fld, RO_part, RO_ixa, RO_ixv, RO_eqa, RO_eqn, RO_mx2, RO_mn2, RO_build2, RO_lit0, RO_lit1, RO_lit2, RO_mkfn0, RO_mkfn1, RO_cap, RO_slice_l, RO_slice_h, RO_slice_lh, RO_box, RO_alloc, RO_store, RO_clear, RO_callv0, RO_callv1, RO_callv2, RO_append, RO_load, RO_callf0, RO_callf1, RO_callf2, RO_callf3, RO_callf4, RO_guard, RO_nil, put_fr, opd_t, opd_c, upd_eq', upd_ne, ne_eq, ↓OM_some, ↓OM_none, ↓CM_bool, ↓CB_true, ↓CB_false, ↓GM_t, ↓GM_f, ↓GM_tup, OM_some, OM_none, CM_bool, CB_true, CB_false, GM_t, GM_f, GM_tup, reduceIte, reduceCtorEq, Nat.reduceLT, Nat.reduceEqDiff, not_false_eq_true, not_true_eq_false, bin_add, bin_sub, bin_mul, bin_eql, bin_neq, bin_lss, bin_leq, bin_gtr, bin_geq, bin_seql, bin_sneq, binb_eql, binb_neq, un_not, un_neg, pick_t, pick_f, mn_2, mx_2, len_nils, len_fs, len_row, eqa_2, bld2_int, lit2_int, decide_true, decide_false, Bool.not_true, Bool.not_false, Bool.false_eq_true, List.length_map, List.getD_cons_zero, List.getD_cons_succ, List.getD_nil, c33_r0, c33_r1, c33_r2, e, FinQ_ret, res_t]
  exact leave3 rfl (fun _ _ _ _ _ _ => by simp)

theorem f35_spec (n : Int) (hw : cx.wp ≤ H.length) : callF (T p23 p36) (ev (T p23 p36)) cx 35 [valI n] H = some (.bool (decide (n < 0)), H) := by
  refine callF_code2 (a := a35) rfl rfl hw (Nat.le_of_ble_eq_true rfl) rfl ?_
  simp only [a35, c35, valI]
  simp (disch := omega) only [RK_seq, RK_region0, RK_block, RK_cond, RK_skip, RK_ret, RK_exit, RE_seq, RE_seq_exit, RE_seq_ret, RE_block, RE_block_ret, RE_block_exit, RE_nil, RO_mv, RO_len, RO_bin, RO_binb, RO_un, RO_pick, RO_ixs, RO_fld, RO_part, RO_ixa, RO_ixv, RO_eqa, RO_eqn, RO_mx2, RO_mn2, RO_build2, RO_lit0, RO_lit1, RO_lit2, RO_mkfn0, RO_mkfn1, RO_cap, RO_slice_l, RO_slice_h, RO_slice_lh, RO_box, RO_alloc, RO_store, RO_clear, RO_callv0, RO_callv1, RO_callv2, RO_append, RO_load, RO_callf0, RO_callf1, RO_callf2, RO_callf3, RO_callf4, RO_guard, RO_nil, put_fr, opd_t, opd_c, upd_eq', upd_ne, ne_eq, ↓OM_some, ↓OM_none, ↓CM_bool, ↓CB_true, ↓CB_false, ↓GM_t, ↓GM_f, ↓GM_tup, OM_some, OM_none, CM_bool, CB_true, CB_false, GM_t, GM_f, GM_tup, reduceIte, reduceCtorEq, Nat.reduceLT, Nat.reduceEqDiff, not_false_eq_true, not_true_eq_false, bin_add, bin_sub, bin_mul, bin_eql, bin_neq, bin_lss, bin_leq, bin_gtr, bin_geq, bin_seql, bin_sneq, binb_eql, binb_neq, un_not, un_neg, pick_t, pick_f, mn_2, mx_2, len_nils, len_fs, len_row, eqa_2, bld2_int, lit2_int, decide_true, decide_false, Bool.not_true, Bool.not_false, Bool.false_eq_true, List.length_map, List.getD_cons_zero, List.getD_cons_succ, List.getD_nil, c35_r0, c35_r1, FinQ_ret, res_t]

end Go.Proofs.Tryt17A
end

section
namespace Go.Proofs.Tryt17A
open Go Go.AM
set_option linter.unusedSimpArgs false
set_option linter.unusedVariables false
variable {p23 p36 : Nat → List AV → Heap → Option (AV × Heap)} {cx : Ctx} {H : Heap}

/-- What is left of elements, equal neighbours but one. -/
def dd {α : Type} [DecidableEq α] (d : α) (l : List α) : Nat → List α
  | 0 => []
  | k + 1 => if 0 < k ∧ l.getD k d = l.getD (k - 1) d then dd d l k else dd d l k ++ [l.getD k d]

theorem cut_row {z i ver n c k : Nat} (h1 : k ≤ n) (h2 : n ≤ c) (h3 : k < n) : slcM z (.row i ver 0 n c z) (some (.int .i64 k)) none none = some (.row i ver k (n - k) (c - k) z) := by
  simp only [slcM, cut, optNat, asNat, Option.bind_eq_bind, Option.bind_some]
  have : (0 : Int) ≤ (k : Int) := by omega
  simp [this, h1, h2]
  omega
theorem cut_row0 {z i ver n c k : Nat} (h1 : k ≤ n) (h2 : n ≤ c) : slcM z (.row i ver 0 n c z) none (some (.int .i64 k)) none = some (.row i ver 0 k c z) := by
  simp only [slcM, cut, optNat, asNat, Option.bind_eq_bind, Option.bind_some]
  have : (0 : Int) ≤ (k : Int) := by omega
  simp [this]
  omega
theorem clear_row {wp i ver k m c : Nat} {zero : List AV} {h : Heap} {all : List (List AV)} (h1 : h[i]? = some (.cells ver all)) (hw : wp ≤ i) (h2 : k + m ≤ all.length) :
    clM wp h zero (.row i ver k m c zero.length) = some (h.set i (.cells ver (all.take k ++ List.replicate m zero ++ all.drop (k + m)))) := by
  simp [clM, hw, rdRow_of h1, h2]

theorem take_set {α : Type} {l : List α} {k : Nat} {a b : α} (h : l[k]? = some b) : (l.set k a).take (k + [a].length) = l.take k ++ [a] := by
  have hk := (List.getElem?_eq_some_iff.1 h).1
  apply List.ext_getElem?
  intro x
  rw [List.getElem?_take, List.getElem?_append, List.length_take, Nat.min_eq_left (by omega)]
  simp only [List.length_singleton]
  by_cases e : x < k
  · rw [if_pos (by omega), if_pos e, List.getElem?_set_ne (by omega), List.getElem?_take, if_pos e]
  · rw [if_neg e]
    by_cases e' : x = k
    · subst e'; rw [if_pos (by omega), List.getElem?_set_self hk]; simp
    · rw [if_neg (by omega), List.getElem?_eq_none (by simp; omega)]

theorem underP {n : Nat} (l : List (Int × Int)) : ∀ e ∈ l.map encP, ∀ c ∈ e, AV.under n c = true := by
  intro e he c hc
  obtain ⟨x, _, rfl⟩ := List.mem_map.1 he
  simp [encP] at hc
  first
    | (rcases hc with rfl | rfl <;> rfl)
    | (subst hc; rfl)

theorem clone_specP {v : AV} {l : List (Int × Int)} (hs : Sl 2 H v (l.map encP)) (hn : isNilK 0 v = some false) (hl : l.length * 16 ≤ maxLn) (hw : cx.wp ≤ H.length) :
    callF (T p23 p36) (ev (T p23 p36)) cx 29 [v] H = some (if l = [] then (.fs [] true, H) else (.row H.length 0 0 l.length l.length 2, H ++ [.cells 0 (l.map encP)])) := by
  refine callF_code (a := a29) rfl hw (Nat.le_of_ble_eq_true rfl) ?_
  have e : ((isNilK 0 v).map fun t => AV.bool (t != false)) = some (.bool false) := by simp [hn]
  have e2 : (fillRow (List.length ([.int .i64 0, .int .i64 0] : List AV)) (List.replicate 0 ([.int .i64 0, .int .i64 0] : List AV)) (mkParts' ([] : List AV) [])).map (fun es => AV.fs es true) = some (.fs [] true) := by simp [fillRow, mkParts']
  have e3 := ap_new (wp := H.length) (bytes := 16) (s := .fs [] true) (.inr rfl) hs (by simpa using hl) (by simp; unfold maxLn at *; omega)
  have e4 : ∀ fr : List AV, (fillRow (List.length ([.int .i64 0, .int .i64 0] : List AV)) (List.replicate 0 ([.int .i64 0, .int .i64 0] : List AV)) (mkParts' fr [])).map (fun es => AV.fs es true) = some (.fs [] true) := by intro fr; simp [fillRow, mkParts']
  simp only [a29, c29, Ctx.enter]
  by_cases hl0 : l = []
  · subst hl0
    simp only [List.map_nil, if_true] at e3
    simp (disch := omega) only [RK_seq, RK_region0, RK_block, RK_cond, RK_skip, RK_ret, RK_exit, RE_seq, RE_seq_exit, RE_seq_ret, RE_block, RE_block_ret, RE_block_exit, RE_nil, RO_mv, RO_len, RO_bin, RO_binb, RO_un, RO_pick, RO_ixs, RO_fld, RO_part, RO_ixa, RO_ixv, RO_eqa, RO_eqn, RO_mx2, RO_mn2, RO_build2, RO_lit0, RO_lit1, RO_lit2, RO_mkfn0, RO_mkfn1, RO_cap, RO_slice_l, RO_slice_h, RO_slice_lh, RO_box, RO_alloc, RO_store, RO_clear, RO_callv0, RO_callv1, RO_callv2, RO_append, RO_load, RO_callf0, RO_callf1, RO_callf2, RO_callf3, RO_callf4, RO_guard, RO_nil, put_fr, opd_t, opd_c, upd_eq', upd_ne, ne_eq, ↓OM_some, ↓OM_none, ↓CM_bool, ↓CB_true, ↓CB_false, ↓GM_t, ↓GM_f, ↓GM_tup, OM_some, OM_none, CM_bool, CB_true, CB_false, GM_t, GM_f, GM_tup, reduceIte, reduceCtorEq, Nat.reduceLT, Nat.reduceEqDiff, not_false_eq_true, not_true_eq_false, bin_add, bin_sub, bin_mul, bin_eql, bin_neq, bin_lss, bin_leq, bin_gtr, bin_geq, bin_seql, bin_sneq, binb_eql, binb_neq, un_not, un_neg, pick_t, pick_f, mn_2, mx_2, len_nils, len_fs, len_row, eqa_2, bld2_int, lit2_int, decide_true, decide_false, Bool.not_true, Bool.not_false, Bool.false_eq_true, List.length_map, List.getD_cons_zero, List.getD_cons_succ, List.getD_nil, c29_r0, c29_r1, c29_r3, e, e4, e3, FinQ_ret, res_t, if_true]
    exact leave3 rfl (fun _ _ _ _ _ _ => by simp)
  · have hne : l.map encP ≠ [] := by simpa using hl0
    rw [if_neg hne, List.length_map] at e3
    simp (disch := omega) only [RK_seq, RK_region0, RK_block, RK_cond, RK_skip, RK_ret, RK_exit, RE_seq, RE_seq_exit, RE_seq_ret, RE_block, RE_block_ret, RE_block_exit, RE_nil, RO_mv, RO_len, RO_bin, RO_binb, RO_un, RO_pick, RO_ixs, RO_fld, RO_part, RO_ixa, RO_ixv, RO_eqa, RO_eqn, RO_mx2, RO_mn2, RO_build2, RO_lit0, RO_lit1, RO_lit2, RO_mkfn0, RO_mkfn1, RO_cap, RO_slice_l, RO_slice_h, RO_slice_lh, RO_box, RO_alloc, RO_store, RO_clear, RO_callv0, RO_callv1, RO_callv2, RO_append, RO_load, RO_callf0, RO_callf1, RO_callf2, RO_callf3, RO_callf4, RO_guard, RO_nil, put_fr, opd_t, opd_c, upd_eq', upd_ne, ne_eq, ↓OM_some, ↓OM_none, ↓CM_bool, ↓CB_true, ↓CB_false, ↓GM_t, ↓GM_f, ↓GM_tup, OM_some, OM_none, CM_bool, CB_true, CB_false, GM_t, GM_f, GM_tup, reduceIte, reduceCtorEq, Nat.reduceLT, Nat.reduceEqDiff, not_false_eq_true, not_true_eq_false, bin_add, bin_sub, bin_mul, bin_eql, bin_neq, bin_lss, bin_leq, bin_gtr, bin_geq, bin_seql, bin_sneq, binb_eql, binb_neq, un_not, un_neg, pick_t, pick_f, mn_2, mx_2, len_nils, len_fs, len_row, eqa_2, bld2_int, lit2_int, decide_true, decide_false, Bool.not_true, Bool.not_false, Bool.false_eq_true, List.length_map, List.getD_cons_zero, List.getD_cons_succ, List.getD_nil, c29_r0, c29_r1, c29_r3, e, e4, e3, FinQ_ret, res_t, hl0]
    have := leave3_row (lb := H.length) (h0 := H) (h := H ++ [.cells 0 (l.map encP)]) (i := H.length) (ver := 0) (o := 0) (n := l.length) (c := l.length) (z := 2) (es := l.map encP) (Nat.le_refl _) (by simp [rdEls, rdRow]; rw [List.take_of_length_le (by simp)]) (underP l)
    simpa using this

/-! ### Compact -/
theorem dd_lenP (l : List (Int × Int)) : ∀ k, (dd (0, 0) l k).length ≤ k
  | 0 => Nat.le_refl _
  | k + 1 => by
    have := dd_lenP l k
    simp only [dd]
    split
    · omega
    · simp; omega

/-- The inner loop: k elements are put, q were looked at. -/
theorem cmp_loop1P (l : List (Int × Int)) (i ver c k0 : Nat) (hl : l.length < 4611686018427387904) (hk0 : 0 < k0) (hk0l : k0 < l.length) (hc : l.length ≤ c) (wp : Nat) (hwp : wp ≤ i) (rd : Option Nat) (all : List (List AV)) (hal : c ≤ all.length) (hall : all.take l.length = l.map encP)
    (Q : Ex → St → Prop)
    (q0 : ∀ (f' : Nat → AV) (h' : Heap) (all' : List (List AV)), h' = H.set i (.cells ver all') → all'.length = all.length → all'.take (dd (0, 0) l l.length).length = (dd (0, 0) l l.length).map encP → (dd (0, 0) l l.length).length < l.length →
      f' 0 = .row i ver 0 l.length c 2 → f' 3 = .int .i64 (dd (0, 0) l l.length).length → Q (.exit 2) ⟨mkfr 61 f', [], h'⟩)
    (f : Nat → AV) (h0 : f 0 = .row i ver 0 l.length c 2) (h4 : f 4 = .row i ver k0 (l.length - k0) (c - k0) 2) (q : Nat) (hq : k0 + 1 ≤ q) (hql : q ≤ l.length) (h3 : f 3 = .int .i64 (dd (0, 0) l q).length) (h5 : f 5 = .int .i64 ((q - k0 : Nat) : Int))
    (hkq : (dd (0, 0) l q).length < q) (all' : List (List AV)) (ha1 : all'.length = all.length) (ha2 : all'.take (dd (0, 0) l q).length = (dd (0, 0) l q).map encP) (ha3 : ∀ x, q ≤ x + 1 → all'[x]? = all[x]?) (ha4 : ∀ x, x < l.length → ∃ cs, all'[x]? = some cs ∧ cs.length = 2) (hi : i < H.length) :
    R (T p23 p36) ⟨wp, rd⟩ c27_l1 ⟨mkfr 61 f, [], H.set i (.cells ver all')⟩ Q := by
  rw [c27_l1, R_loop, ← c27_l1, c27_lb1]
  have hH : (H.set i (.cells ver all'))[i]? = some (.cells ver all') := List.getElem?_set_self hi
  have get : ∀ x, (hx : x < l.length) → all[x]? = some (encP l[x]) := by
    intro x hx
    have := congrArg (fun t => t[x]?) hall
    simpa [List.getElem?_take, hx] using this
  by_cases hlt : q < l.length
  · have e1 : (((q - k0 : Nat) : Int) < ((l.length - k0 : Nat) : Int)) = True := by simp; omega
    have e2 : ((q - k0 : Nat) : Int) - 1 = ((q - k0 - 1 : Nat) : Int) := by omega
    have i1 := ixs_rowo (z := 2) (i := i) (ver := ver) (o := k0) (n := l.length - k0) (c := c - k0) (k := .i64) (j := q - k0) (by omega)
    have i2 := ixs_rowo (z := 2) (i := i) (ver := ver) (o := k0) (n := l.length - k0) (c := c - k0) (k := .i64) (j := q - k0 - 1) (by omega)
    rw [show k0 + (q - k0) = q by omega] at i1
    rw [show k0 + (q - k0 - 1) = q - 1 by omega] at i2
    have d1 := ld_row (ag := true) (n := 2) hH (j := q) (x := valP l[q]) (cs := encP l[q]) (by rw [ha3 q (by omega)]; exact get q hlt) partP
    have d2 := ld_row (ag := true) (n := 2) hH (j := q - 1) (x := valP l[q - 1]) (cs := encP l[q - 1]) (by rw [ha3 (q - 1) (by omega)]; exact get (q - 1) (by omega)) partP
    have g1 : l.getD q (0, 0) = l[q] := by simp [List.getD_eq_getElem?_getD, hlt]
    have g2 : l.getD (q - 1) (0, 0) = l[q - 1] := by simp [List.getD_eq_getElem?_getD, show q - 1 < l.length by omega]
    have hdd : dd (0, 0) l (q + 1) = if l[q] = l[q - 1] then dd (0, 0) l q else dd (0, 0) l q ++ [l[q]] := by
      simp only [dd, g1, g2, show 0 < q by omega, true_and]
    have e5 : ((q - k0 : Nat) : Int) + 1 = ((q + 1 - k0 : Nat) : Int) := by omega
    by_cases hx : l[q] = l[q - 1]
    · rw [if_pos hx] at hdd
      simp (disch := omega) only [RK_seq, RK_region0, RK_block, RK_cond, RK_skip, RK_ret, RK_exit, RE_seq, RE_seq_exit, RE_seq_ret, RE_block, RE_block_ret, RE_block_exit, RE_nil, RO_mv, RO_len, RO_bin, RO_binb, RO_un, RO_pick, RO_ixs, RO_fld, RO_part, RO_ixa, RO_ixv, RO_eqa, RO_eqn, RO_mx2, RO_mn2, RO_build2, RO_lit0, RO_lit1, RO_lit2, RO_mkfn0, RO_mkfn1, RO_cap, RO_slice_l, RO_slice_h, RO_slice_lh, RO_box, RO_alloc, RO_store, RO_clear, RO_callv0, RO_callv1, RO_callv2, RO_append, RO_load, RO_callf0, RO_callf1, RO_callf2, RO_callf3, RO_callf4, RO_guard, RO_nil, put_fr, opd_t, opd_c, upd_eq', upd_ne, ne_eq, ↓OM_some, ↓OM_none, ↓CM_bool, ↓CB_true, ↓CB_false, ↓GM_t, ↓GM_f, ↓GM_tup, OM_some, OM_none, CM_bool, CB_true, CB_false, GM_t, GM_f, GM_tup, reduceIte, reduceCtorEq, Nat.reduceLT, Nat.reduceEqDiff, not_false_eq_true, not_true_eq_false, bin_add, bin_sub, bin_mul, bin_eql, bin_neq, bin_lss, bin_leq, bin_gtr, bin_geq, bin_seql, bin_sneq, binb_eql, binb_neq, un_not, un_neg, pick_t, pick_f, mn_2, mx_2, len_nils, len_fs, len_row, eqa_2, bld2_int, lit2_int, decide_true, decide_false, Bool.not_true, Bool.not_false, Bool.false_eq_true, List.length_map, List.getD_cons_zero, List.getD_cons_succ, List.getD_nil, c27_r8, c27_r9, c27_r12, h0, h3, h4, h5, e1, e2, i1, i2, d1, d2, neqP, hx, wrap64]
      exact cmp_loop1P l i ver c k0 hl hk0 hk0l hc wp hwp rd all hal hall Q q0 _ (by simp [upd', h0]) (by simp [upd', h4]) (q + 1) (by omega) hlt (by simp [upd', h3, hdd]) (by simp [upd', e5]) (by rw [hdd]; omega) all' ha1 (by rw [hdd]; exact ha2) (fun x hx => ha3 x (by omega)) ha4 hi
    · rw [if_neg hx] at hdd
      have hkl : (dd (0, 0) l q).length < l.length := by omega
      obtain ⟨K, hK⟩ : ∃ K, (dd (0, 0) l q).length = K := ⟨_, rfl⟩
      rw [hK] at h3 ha2 hkq hkl
      have i3 := ixs_row (z := 2) (i := i) (ver := ver) (n := l.length) (c := c) (k := .i64) (j := K) hkl
      obtain ⟨old, ho1, ho2⟩ := ha4 K hkl
      have s1 := st_row (wp := wp) (n := 2) (x := valP l[q]) (cs := encP l[q]) hH ho1 hwp rfl rfl rfl ho2
      rw [List.set_set] at s1
      simp (disch := omega) only [RK_seq, RK_region0, RK_block, RK_cond, RK_skip, RK_ret, RK_exit, RE_seq, RE_seq_exit, RE_seq_ret, RE_block, RE_block_ret, RE_block_exit, RE_nil, RO_mv, RO_len, RO_bin, RO_binb, RO_un, RO_pick, RO_ixs, RO_fld, RO_part, RO_ixa, RO_ixv, RO_eqa, RO_eqn, RO_mx2, RO_mn2, RO_build2, RO_lit0, RO_lit1, RO_lit2, RO_mkfn0, RO_mkfn1, RO_cap, RO_slice_l, RO_slice_h, RO_slice_lh, RO_box, RO_alloc, RO_store, RO_clear, RO_callv0, RO_callv1, RO_callv2, RO_append, RO_load, RO_callf0, RO_callf1, RO_callf2, RO_callf3, RO_callf4, RO_guard, RO_nil, put_fr, opd_t, opd_c, upd_eq', upd_ne, ne_eq, ↓OM_some, ↓OM_none, ↓CM_bool, ↓CB_true, ↓CB_false, ↓GM_t, ↓GM_f, ↓GM_tup, OM_some, OM_none, CM_bool, CB_true, CB_false, GM_t, GM_f, GM_tup, reduceIte, reduceCtorEq, Nat.reduceLT, Nat.reduceEqDiff, not_false_eq_true, not_true_eq_false, bin_add, bin_sub, bin_mul, bin_eql, bin_neq, bin_lss, bin_leq, bin_gtr, bin_geq, bin_seql, bin_sneq, binb_eql, binb_neq, un_not, un_neg, pick_t, pick_f, mn_2, mx_2, len_nils, len_fs, len_row, eqa_2, bld2_int, lit2_int, decide_true, decide_false, Bool.not_true, Bool.not_false, Bool.false_eq_true, List.length_map, List.getD_cons_zero, List.getD_cons_succ, List.getD_nil, c27_r8, c27_r9, c27_r10, c27_r11, c27_r12, h0, h3, h4, h5, e1, e2, i1, i2, i3, d1, d2, s1, neqP, hx, wrap64]
      exact cmp_loop1P l i ver c k0 hl hk0 hk0l hc wp hwp rd all hal hall Q q0 _ (by simp [upd', h0]) (by simp [upd', h4]) (q + 1) (by omega) hlt (by simp [upd', hdd, hK]) (by simp [upd', e5]) (by rw [hdd]; simp; omega) (all'.set K (encP l[q])) (by simpa using ha1)
        (by
          rw [hdd, List.length_append, hK, List.map_append, ← ha2]
          exact take_set ho1)
        (fun x hx => by rw [List.getElem?_set_ne (by omega)]; exact ha3 x (by omega))
        (fun x hx => by
          by_cases e : K = x
          · subst e
            exact ⟨_, List.getElem?_set_self (List.getElem?_eq_some_iff.1 ho1).1, rfl⟩
          · rw [List.getElem?_set_ne e]; exact ha4 x hx) hi
  · have : q = l.length := by omega
    subst this
    have e1 : (((l.length - k0 : Nat) : Int) < ((l.length - k0 : Nat) : Int)) = False := by simp
    simp (disch := omega) only [RK_seq, RK_region0, RK_block, RK_cond, RK_skip, RK_ret, RK_exit, RE_seq, RE_seq_exit, RE_seq_ret, RE_block, RE_block_ret, RE_block_exit, RE_nil, RO_mv, RO_len, RO_bin, RO_binb, RO_un, RO_pick, RO_ixs, RO_fld, RO_part, RO_ixa, RO_ixv, RO_eqa, RO_eqn, RO_mx2, RO_mn2, RO_build2, RO_lit0, RO_lit1, RO_lit2, RO_mkfn0, RO_mkfn1, RO_cap, RO_slice_l, RO_slice_h, RO_slice_lh, RO_box, RO_alloc, RO_store, RO_clear, RO_callv0, RO_callv1, RO_callv2, RO_append, RO_load, RO_callf0, RO_callf1, RO_callf2, RO_callf3, RO_callf4, RO_guard, RO_nil, put_fr, opd_t, opd_c, upd_eq', upd_ne, ne_eq, ↓OM_some, ↓OM_none, ↓CM_bool, ↓CB_true, ↓CB_false, ↓GM_t, ↓GM_f, ↓GM_tup, OM_some, OM_none, CM_bool, CB_true, CB_false, GM_t, GM_f, GM_tup, reduceIte, reduceCtorEq, Nat.reduceLT, Nat.reduceEqDiff, not_false_eq_true, not_true_eq_false, bin_add, bin_sub, bin_mul, bin_eql, bin_neq, bin_lss, bin_leq, bin_gtr, bin_geq, bin_seql, bin_sneq, binb_eql, binb_neq, un_not, un_neg, pick_t, pick_f, mn_2, mx_2, len_nils, len_fs, len_row, eqa_2, bld2_int, lit2_int, decide_true, decide_false, Bool.not_true, Bool.not_false, Bool.false_eq_true, List.length_map, List.getD_cons_zero, List.getD_cons_succ, List.getD_nil, c27_r8, h4, h5, e1]
    exact q0 _ _ all' rfl ha1 ha2 hkq h0 h3
termination_by l.length - q

/-- The outer loop: the first k elements are unlike their neighbours. -/
theorem cmp_loop0P (l : List (Int × Int)) (i ver c : Nat) (hl : l.length < 4611686018427387904) (hc : l.length ≤ c) (wp : Nat) (hwp : wp ≤ i) (rd : Option Nat) (all : List (List AV)) (hal : c ≤ all.length) (hall : all.take l.length = l.map encP) (hH : H[i]? = some (.cells ver all))
    (Q : Ex → St → Prop)
    (q0 : dd (0, 0) l l.length = l → ∀ f' : Nat → AV, f' 0 = .row i ver 0 l.length c 2 → Q (.exit 0) ⟨mkfr 61 f', [], H⟩)
    (q1 : ∀ (f' : Nat → AV) (all' : List (List AV)), c ≤ all'.length → all'.take (dd (0, 0) l l.length).length = (dd (0, 0) l l.length).map encP → f' 2 = .row i ver 0 (dd (0, 0) l l.length).length c 2 → Q .ret ⟨mkfr 61 f', [], H.set i (.cells ver all')⟩)
    (f : Nat → AV) (h0 : f 0 = .row i ver 0 l.length c 2) (k : Nat) (hk : 1 ≤ k) (hkl : k ≤ l.length) (h3 : f 3 = .int .i64 k) (hd : dd (0, 0) l k = l.take k) :
    R (T p23 p36) ⟨wp, rd⟩ c27_l0 ⟨mkfr 61 f, [], H⟩ Q := by
  rw [c27_l0, R_loop, ← c27_l0, c27_lb0]
  have hi := (List.getElem?_eq_some_iff.1 hH).1
  have get : ∀ x, (hx : x < l.length) → all[x]? = some (encP l[x]) := by
    intro x hx
    have := congrArg (fun t => t[x]?) hall
    simpa [List.getElem?_take, hx] using this
  by_cases hlt : k < l.length
  · have e1 : ((k : Int) < (l.length : Int)) = True := by simp; omega
    have e2 : (k : Int) - 1 = ((k - 1 : Nat) : Int) := by omega
    have i1 := ixs_row (z := 2) (i := i) (ver := ver) (n := l.length) (c := c) (k := .i64) (j := k) hlt
    have i2 := ixs_row (z := 2) (i := i) (ver := ver) (n := l.length) (c := c) (k := .i64) (j := k - 1) (by omega)
    have d1 := ld_row (ag := true) (n := 2) hH (j := k) (x := valP l[k]) (cs := encP l[k]) (get k hlt) partP
    have d2 := ld_row (ag := true) (n := 2) hH (j := k - 1) (x := valP l[k - 1]) (cs := encP l[k - 1]) (get (k - 1) (by omega)) partP
    have g1 : l.getD k (0, 0) = l[k] := by simp [List.getD_eq_getElem?_getD, hlt]
    have g2 : l.getD (k - 1) (0, 0) = l[k - 1] := by simp [List.getD_eq_getElem?_getD, show k - 1 < l.length by omega]
    have hdd : dd (0, 0) l (k + 1) = if l[k] = l[k - 1] then dd (0, 0) l k else dd (0, 0) l k ++ [l[k]] := by
      simp only [dd, g1, g2, show 0 < k by omega, true_and]
    by_cases hx : l[k] = l[k - 1]
    · rw [if_pos hx] at hdd
      have s0 := cut_row (z := 2) (i := i) (ver := ver) (n := l.length) (c := c) (k := k) (by omega) hc hlt
      simp (disch := omega) only [RK_seq, RK_region0, RK_block, RK_cond, RK_skip, RK_ret, RK_exit, RE_seq, RE_seq_exit, RE_seq_ret, RE_block, RE_block_ret, RE_block_exit, RE_nil, RO_mv, RO_len, RO_bin, RO_binb, RO_un, RO_pick, RO_ixs, RO_fld, RO_part, RO_ixa, RO_ixv, RO_eqa, RO_eqn, RO_mx2, RO_mn2, RO_build2, RO_lit0, RO_lit1, RO_lit2, RO_mkfn0, RO_mkfn1, RO_cap, RO_slice_l, RO_slice_h, RO_slice_lh, RO_box, RO_alloc, RO_store, RO_clear, RO_callv0, RO_callv1, RO_callv2, RO_append, RO_load, RO_callf0, RO_callf1, RO_callf2, RO_callf3, RO_callf4, RO_guard, RO_nil, put_fr, opd_t, opd_c, upd_eq', upd_ne, ne_eq, ↓OM_some, ↓OM_none, ↓CM_bool, ↓CB_true, ↓CB_false, ↓GM_t, ↓GM_f, ↓GM_tup, OM_some, OM_none, CM_bool, CB_true, CB_false, GM_t, GM_f, GM_tup, reduceIte, reduceCtorEq, Nat.reduceLT, Nat.reduceEqDiff, not_false_eq_true, not_true_eq_false, bin_add, bin_sub, bin_mul, bin_eql, bin_neq, bin_lss, bin_leq, bin_gtr, bin_geq, bin_seql, bin_sneq, binb_eql, binb_neq, un_not, un_neg, pick_t, pick_f, mn_2, mx_2, len_nils, len_fs, len_row, eqa_2, bld2_int, lit2_int, decide_true, decide_false, Bool.not_true, Bool.not_false, Bool.false_eq_true, List.length_map, List.getD_cons_zero, List.getD_cons_succ, List.getD_nil, c27_r4, c27_r5, c27_r6, c27_r7, h0, h3, e1, e2, i1, i2, d1, d2, s0, eqP, hx, wrap64, Option.map_some, Option.map_none]
      rw [← set_self hH]
      refine cmp_loop1P l i ver c k hl (by omega) hlt hc wp hwp rd all hal hall _ (fun f' h' all' e3 e4 e5 e6 e7 e8 => ?_) _ (by simp [upd', h0]) (by simp [upd']) (k + 1) (by omega) hlt (by simp [upd', h3, hdd, hd]; omega) (by simp [upd']) (by rw [hdd, hd]; simp; omega) all rfl (by rw [hdd, hd, List.length_take, Nat.min_eq_left hkl, List.map_take, ← hall, List.take_take, Nat.min_eq_left hkl]) (fun x hx => rfl) (fun x hx => ⟨_, get x hx, rfl⟩) hi
      subst e3
      have hH' : (H.set i (.cells ver all'))[i]? = some (.cells ver all') := List.getElem?_set_self hi
      obtain ⟨K, hK⟩ : ∃ K, (dd (0, 0) l l.length).length = K := ⟨_, rfl⟩
      rw [hK] at e5 e6 e8
      have s1 := cut_row (z := 2) (i := i) (ver := ver) (n := l.length) (c := c) (k := K) (by omega) hc (by omega)
      have s2 := cut_row0 (z := 2) (i := i) (ver := ver) (n := l.length) (c := c) (k := K) (by omega) hc
      have s3 := clear_row (wp := wp) (zero := [.int .i64 0, .int .i64 0]) (c := c - K) (k := K) (m := l.length - K) hH' hwp (by omega)
      rw [List.set_set] at s3
      simp only [List.length_cons, List.length_nil, Nat.zero_add, Nat.reduceAdd] at s3
      simp (disch := omega) only [RK_seq, RK_region0, RK_block, RK_cond, RK_skip, RK_ret, RK_exit, RE_seq, RE_seq_exit, RE_seq_ret, RE_block, RE_block_ret, RE_block_exit, RE_nil, RO_mv, RO_len, RO_bin, RO_binb, RO_un, RO_pick, RO_ixs, RO_fld, RO_part, RO_ixa, RO_ixv, RO_eqa, RO_eqn, RO_mx2, RO_mn2, RO_build2, RO_lit0, RO_lit1, RO_lit2, RO_mkfn0, RO_mkfn1, RO_cap, RO_slice_l, RO_slice_h, RO_slice_lh, RO_box, RO_alloc, RO_store, RO_clear, RO_callv0, RO_callv1, RO_callv2, RO_append, RO_load, RO_callf0, RO_callf1, RO_callf2, RO_callf3, RO_callf4, RO_guard, RO_nil, put_fr, opd_t, opd_c, upd_eq', upd_ne, ne_eq, ↓OM_some, ↓OM_none, ↓CM_bool, ↓CB_true, ↓CB_false, ↓GM_t, ↓GM_f, ↓GM_tup, OM_some, OM_none, CM_bool, CB_true, CB_false, GM_t, GM_f, GM_tup, reduceIte, reduceCtorEq, Nat.reduceLT, Nat.reduceEqDiff, not_false_eq_true, not_true_eq_false, bin_add, bin_sub, bin_mul, bin_eql, bin_neq, bin_lss, bin_leq, bin_gtr, bin_geq, bin_seql, bin_sneq, binb_eql, binb_neq, un_not, un_neg, pick_t, pick_f, mn_2, mx_2, len_nils, len_fs, len_row, eqa_2, bld2_int, lit2_int, decide_true, decide_false, Bool.not_true, Bool.not_false, Bool.false_eq_true, List.length_map, List.getD_cons_zero, List.getD_cons_succ, List.getD_nil, c27_r13, c27_r14, e7, e8, s1, s2, s3, Option.map_some, Option.map_none]
      refine q1 _ _ ?_ ?_ (by simp [upd', hK])
      · simp; omega
      · rw [List.take_append_of_le_length (by simp; omega), List.take_append_of_le_length (by simp; omega), List.take_take, hK, Nat.min_self]; exact e5
    · rw [if_neg hx] at hdd
      simp (disch := omega) only [RK_seq, RK_region0, RK_block, RK_cond, RK_skip, RK_ret, RK_exit, RE_seq, RE_seq_exit, RE_seq_ret, RE_block, RE_block_ret, RE_block_exit, RE_nil, RO_mv, RO_len, RO_bin, RO_binb, RO_un, RO_pick, RO_ixs, RO_fld, RO_part, RO_ixa, RO_ixv, RO_eqa, RO_eqn, RO_mx2, RO_mn2, RO_build2, RO_lit0, RO_lit1, RO_lit2, RO_mkfn0, RO_mkfn1, RO_cap, RO_slice_l, RO_slice_h, RO_slice_lh, RO_box, RO_alloc, RO_store, RO_clear, RO_callv0, RO_callv1, RO_callv2, RO_append, RO_load, RO_callf0, RO_callf1, RO_callf2, RO_callf3, RO_callf4, RO_guard, RO_nil, put_fr, opd_t, opd_c, upd_eq', upd_ne, ne_eq, ↓OM_some, ↓OM_none, ↓CM_bool, ↓CB_true, ↓CB_false, ↓GM_t, ↓GM_f, ↓GM_tup, OM_some, OM_none, CM_bool, CB_true, CB_false, GM_t, GM_f, GM_tup, reduceIte, reduceCtorEq, Nat.reduceLT, Nat.reduceEqDiff, not_false_eq_true, not_true_eq_false, bin_add, bin_sub, bin_mul, bin_eql, bin_neq, bin_lss, bin_leq, bin_gtr, bin_geq, bin_seql, bin_sneq, binb_eql, binb_neq, un_not, un_neg, pick_t, pick_f, mn_2, mx_2, len_nils, len_fs, len_row, eqa_2, bld2_int, lit2_int, decide_true, decide_false, Bool.not_true, Bool.not_false, Bool.false_eq_true, List.length_map, List.getD_cons_zero, List.getD_cons_succ, List.getD_nil, c27_r4, c27_r5, c27_r15, h0, h3, e1, e2, i1, i2, d1, d2, eqP, hx, wrap64]
      exact cmp_loop0P l i ver c hl hc wp hwp rd all hal hall hH Q q0 q1 _ (by simp [upd', h0]) (k + 1) (by omega) hlt (by simp [upd']) (by rw [hdd, hd, List.take_succ_eq_append_getElem hlt])
  · have : k = l.length := by omega
    subst this
    simp (disch := omega) only [RK_seq, RK_region0, RK_block, RK_cond, RK_skip, RK_ret, RK_exit, RE_seq, RE_seq_exit, RE_seq_ret, RE_block, RE_block_ret, RE_block_exit, RE_nil, RO_mv, RO_len, RO_bin, RO_binb, RO_un, RO_pick, RO_ixs, RO_fld, RO_part, RO_ixa, RO_ixv, RO_eqa, RO_eqn, RO_mx2, RO_mn2, RO_build2, RO_lit0, RO_lit1, RO_lit2, RO_mkfn0, RO_mkfn1, RO_cap, RO_slice_l, RO_slice_h, RO_slice_lh, RO_box, RO_alloc, RO_store, RO_clear, RO_callv0, RO_callv1, RO_callv2, RO_append, RO_load, RO_callf0, RO_callf1, RO_callf2, RO_callf3, RO_callf4, RO_guard, RO_nil, put_fr, opd_t, opd_c, upd_eq', upd_ne, ne_eq, ↓OM_some, ↓OM_none, ↓CM_bool, ↓CB_true, ↓CB_false, ↓GM_t, ↓GM_f, ↓GM_tup, OM_some, OM_none, CM_bool, CB_true, CB_false, GM_t, GM_f, GM_tup, reduceIte, reduceCtorEq, Nat.reduceLT, Nat.reduceEqDiff, not_false_eq_true, not_true_eq_false, bin_add, bin_sub, bin_mul, bin_eql, bin_neq, bin_lss, bin_leq, bin_gtr, bin_geq, bin_seql, bin_sneq, binb_eql, binb_neq, un_not, un_neg, pick_t, pick_f, mn_2, mx_2, len_nils, len_fs, len_row, eqa_2, bld2_int, lit2_int, decide_true, decide_false, Bool.not_true, Bool.not_false, Bool.false_eq_true, List.length_map, List.getD_cons_zero, List.getD_cons_succ, List.getD_nil, c27_r4, h0, h3, Int.lt_irrefl]
    exact q0 (by rw [hd, List.take_length]) _ (by simp [upd', h0])
termination_by l.length - k

theorem compact_specP {v : AV} {l : List (Int × Int)} {i : Nat} (ho : Ow 2 cx.wp H v (l.map encP) i) (hl : l.length < 4611686018427387904) (hw : cx.wp ≤ H.length) :
    ∃ v' bx, callF (T p23 p36) (ev (T p23 p36)) cx 27 [v] H = some (v', H.set i bx) ∧ Ow 2 cx.wp (H.set i bx) v' ((dd (0, 0) l l.length).map encP) i := by
  obtain ⟨ver, c, all, rfl, hH, hall, hal, hlc⟩ := ho.row
  rw [List.length_map] at *
  have hi := ho.lt
  by_cases h2 : l.length < 2
  · have hdd : dd (0, 0) l l.length = l := by
      cases l with
      | nil => rfl
      | cons a l =>
        cases l with
        | nil => simp [dd]
        | cons b l => simp only [List.length_cons] at h2; omega
    refine ⟨.row i ver 0 l.length c 2, .cells ver all, ?_, ?_⟩
    · refine callF_code (a := a27) rfl hw (Nat.le_of_ble_eq_true rfl) ?_
      simp only [a27, c27]
      have e1 : ((l.length : Int) < 2) = True := by simp; omega
      simp (disch := omega) only [RK_seq, RK_region0, RK_block, RK_cond, RK_skip, RK_ret, RK_exit, RE_seq, RE_seq_exit, RE_seq_ret, RE_block, RE_block_ret, RE_block_exit, RE_nil, RO_mv, RO_len, RO_bin, RO_binb, RO_un, RO_pick, RO_ixs, RO_fld, RO_part, RO_ixa, RO_ixv, RO_eqa, RO_eqn, RO_mx2, RO_mn2, RO_build2, RO_lit0, RO_lit1, RO_lit2, RO_mkfn0, RO_mkfn1, RO_cap, RO_slice_l, RO_slice_h, RO_slice_lh, RO_box, RO_alloc, RO_store, RO_clear, RO_callv0, RO_callv1, RO_callv2, RO_append, RO_load, RO_callf0, RO_callf1, RO_callf2, RO_callf3, RO_callf4, RO_guard, RO_nil, put_fr, opd_t, opd_c, upd_eq', upd_ne, ne_eq, ↓OM_some, ↓OM_none, ↓CM_bool, ↓CB_true, ↓CB_false, ↓GM_t, ↓GM_f, ↓GM_tup, OM_some, OM_none, CM_bool, CB_true, CB_false, GM_t, GM_f, GM_tup, reduceIte, reduceCtorEq, Nat.reduceLT, Nat.reduceEqDiff, not_false_eq_true, not_true_eq_false, bin_add, bin_sub, bin_mul, bin_eql, bin_neq, bin_lss, bin_leq, bin_gtr, bin_geq, bin_seql, bin_sneq, binb_eql, binb_neq, un_not, un_neg, pick_t, pick_f, mn_2, mx_2, len_nils, len_fs, len_row, eqa_2, bld2_int, lit2_int, decide_true, decide_false, Bool.not_true, Bool.not_false, Bool.false_eq_true, List.length_map, List.getD_cons_zero, List.getD_cons_succ, List.getD_nil, c27_r0, c27_r1, c27_r2, e1, FinQ_ret, res_t]
      rw [set_self hH]; rfl
    · rw [set_self hH, hdd]
      simpa using ho
  · have main : ∃ all', callF (T p23 p36) (ev (T p23 p36)) cx 27 [.row i ver 0 l.length c 2] H = some (.row i ver 0 (dd (0, 0) l l.length).length c 2, H.set i (.cells ver all')) ∧ c ≤ all'.length ∧ all'.take (dd (0, 0) l l.length).length = (dd (0, 0) l l.length).map encP := by
      suffices hs : ∃ r : AV × Heap, callF (T p23 p36) (ev (T p23 p36)) cx 27 [.row i ver 0 l.length c 2] H = some r ∧ ∃ all', r = (.row i ver 0 (dd (0, 0) l l.length).length c 2, H.set i (.cells ver all')) ∧ c ≤ all'.length ∧ all'.take (dd (0, 0) l l.length).length = (dd (0, 0) l l.length).map encP by
        obtain ⟨r, h1, all', rfl, h3⟩ := hs
        exact ⟨all', h1, h3⟩
      refine callF_codeE (a := a27) rfl hw (Nat.le_of_ble_eq_true rfl) ?_
      simp only [a27, c27, Ctx.enter]
      have e1 : ((l.length : Int) < 2) = False := by simp; omega
      simp (disch := omega) only [RK_seq, RK_region0, RK_block, RK_cond, RK_skip, RK_ret, RK_exit, RE_seq, RE_seq_exit, RE_seq_ret, RE_block, RE_block_ret, RE_block_exit, RE_nil, RO_mv, RO_len, RO_bin, RO_binb, RO_un, RO_pick, RO_ixs, RO_fld, RO_part, RO_ixa, RO_ixv, RO_eqa, RO_eqn, RO_mx2, RO_mn2, RO_build2, RO_lit0, RO_lit1, RO_lit2, RO_mkfn0, RO_mkfn1, RO_cap, RO_slice_l, RO_slice_h, RO_slice_lh, RO_box, RO_alloc, RO_store, RO_clear, RO_callv0, RO_callv1, RO_callv2, RO_append, RO_load, RO_callf0, RO_callf1, RO_callf2, RO_callf3, RO_callf4, RO_guard, RO_nil, put_fr, opd_t, opd_c, upd_eq', upd_ne, ne_eq, ↓OM_some, ↓OM_none, ↓CM_bool, ↓CB_true, ↓CB_false, ↓GM_t, ↓GM_f, ↓GM_tup, OM_some, OM_none, CM_bool, CB_true, CB_false, GM_t, GM_f, GM_tup, reduceIte, reduceCtorEq, Nat.reduceLT, Nat.reduceEqDiff, not_false_eq_true, not_true_eq_false, bin_add, bin_sub, bin_mul, bin_eql, bin_neq, bin_lss, bin_leq, bin_gtr, bin_geq, bin_seql, bin_sneq, binb_eql, binb_neq, un_not, un_neg, pick_t, pick_f, mn_2, mx_2, len_nils, len_fs, len_row, eqa_2, bld2_int, lit2_int, decide_true, decide_false, Bool.not_true, Bool.not_false, Bool.false_eq_true, List.length_map, List.getD_cons_zero, List.getD_cons_succ, List.getD_nil, c27_r0, c27_r1, c27_r3, e1]
      refine cmp_loop0P l i ver c hl hlc cx.wp ho.wp none all hal hall hH _ (fun hd f' g0 => ?_) (fun f' all' g1 g2 g3 => ?_) _ (by simp [upd']) 1 (Nat.le_refl _) (by omega) (by simp [upd']) ?_
      · simp (disch := omega) only [RK_seq, RK_region0, RK_block, RK_cond, RK_skip, RK_ret, RK_exit, RE_seq, RE_seq_exit, RE_seq_ret, RE_block, RE_block_ret, RE_block_exit, RE_nil, RO_mv, RO_len, RO_bin, RO_binb, RO_un, RO_pick, RO_ixs, RO_fld, RO_part, RO_ixa, RO_ixv, RO_eqa, RO_eqn, RO_mx2, RO_mn2, RO_build2, RO_lit0, RO_lit1, RO_lit2, RO_mkfn0, RO_mkfn1, RO_cap, RO_slice_l, RO_slice_h, RO_slice_lh, RO_box, RO_alloc, RO_store, RO_clear, RO_callv0, RO_callv1, RO_callv2, RO_append, RO_load, RO_callf0, RO_callf1, RO_callf2, RO_callf3, RO_callf4, RO_guard, RO_nil, put_fr, opd_t, opd_c, upd_eq', upd_ne, ne_eq, ↓OM_some, ↓OM_none, ↓CM_bool, ↓CB_true, ↓CB_false, ↓GM_t, ↓GM_f, ↓GM_tup, OM_some, OM_none, CM_bool, CB_true, CB_false, GM_t, GM_f, GM_tup, reduceIte, reduceCtorEq, Nat.reduceLT, Nat.reduceEqDiff, not_false_eq_true, not_true_eq_false, bin_add, bin_sub, bin_mul, bin_eql, bin_neq, bin_lss, bin_leq, bin_gtr, bin_geq, bin_seql, bin_sneq, binb_eql, binb_neq, un_not, un_neg, pick_t, pick_f, mn_2, mx_2, len_nils, len_fs, len_row, eqa_2, bld2_int, lit2_int, decide_true, decide_false, Bool.not_true, Bool.not_false, Bool.false_eq_true, List.length_map, List.getD_cons_zero, List.getD_cons_succ, List.getD_nil, c27_r16, g0, FinQ_ret, res_t]
        exact ⟨_, rfl, all, by rw [hd, set_self hH], hal, by rw [hd]; exact hall⟩
      · simp (disch := omega) only [RK_seq, RK_region0, RK_block, RK_cond, RK_skip, RK_ret, RK_exit, RE_seq, RE_seq_exit, RE_seq_ret, RE_block, RE_block_ret, RE_block_exit, RE_nil, RO_mv, RO_len, RO_bin, RO_binb, RO_un, RO_pick, RO_ixs, RO_fld, RO_part, RO_ixa, RO_ixv, RO_eqa, RO_eqn, RO_mx2, RO_mn2, RO_build2, RO_lit0, RO_lit1, RO_lit2, RO_mkfn0, RO_mkfn1, RO_cap, RO_slice_l, RO_slice_h, RO_slice_lh, RO_box, RO_alloc, RO_store, RO_clear, RO_callv0, RO_callv1, RO_callv2, RO_append, RO_load, RO_callf0, RO_callf1, RO_callf2, RO_callf3, RO_callf4, RO_guard, RO_nil, put_fr, opd_t, opd_c, upd_eq', upd_ne, ne_eq, ↓OM_some, ↓OM_none, ↓CM_bool, ↓CB_true, ↓CB_false, ↓GM_t, ↓GM_f, ↓GM_tup, OM_some, OM_none, CM_bool, CB_true, CB_false, GM_t, GM_f, GM_tup, reduceIte, reduceCtorEq, Nat.reduceLT, Nat.reduceEqDiff, not_false_eq_true, not_true_eq_false, bin_add, bin_sub, bin_mul, bin_eql, bin_neq, bin_lss, bin_leq, bin_gtr, bin_geq, bin_seql, bin_sneq, binb_eql, binb_neq, un_not, un_neg, pick_t, pick_f, mn_2, mx_2, len_nils, len_fs, len_row, eqa_2, bld2_int, lit2_int, decide_true, decide_false, Bool.not_true, Bool.not_false, Bool.false_eq_true, List.length_map, List.getD_cons_zero, List.getD_cons_succ, List.getD_nil, FinQ_ret, res_t, g3]
        exact ⟨_, rfl, all', rfl, g1, g2⟩
      · cases l with
        | nil => simp only [List.length_nil] at h2; omega
        | cons a l => simp [dd]
    obtain ⟨all', m1, m2, m3⟩ := main
    have hdl := dd_lenP l l.length
    exact ⟨_, _, m1, ⟨⟨ver, c, all', by simp, List.getElem?_set_self hi, by simpa using m3, m2, by simp; omega⟩, ho.wp, lensP _⟩⟩
theorem underI {n : Nat} (l : List Int) : ∀ e ∈ l.map encI, ∀ c ∈ e, AV.under n c = true := by
  intro e he c hc
  obtain ⟨x, _, rfl⟩ := List.mem_map.1 he
  simp [encI] at hc
  first
    | (rcases hc with rfl | rfl <;> rfl)
    | (subst hc; rfl)

theorem clone_specI {v : AV} {l : List Int} (hs : Sl 1 H v (l.map encI)) (hn : isNilK 0 v = some false) (hl : l.length * 8 ≤ maxLn) (hw : cx.wp ≤ H.length) :
    callF (T p23 p36) (ev (T p23 p36)) cx 33 [v] H = some (if l = [] then (.fs [] true, H) else (.row H.length 0 0 l.length l.length 1, H ++ [.cells 0 (l.map encI)])) := by
  refine callF_code (a := a33) rfl hw (Nat.le_of_ble_eq_true rfl) ?_
  have e : ((isNilK 0 v).map fun t => AV.bool (t != false)) = some (.bool false) := by simp [hn]
  have e2 : (fillRow (List.length ([.int .i64 0] : List AV)) (List.replicate 0 ([.int .i64 0] : List AV)) (mkParts' ([] : List AV) [])).map (fun es => AV.fs es true) = some (.fs [] true) := by simp [fillRow, mkParts']
  have e3 := ap_new (wp := H.length) (bytes := 8) (s := .fs [] true) (.inr rfl) hs (by simpa using hl) (by simp; unfold maxLn at *; omega)
  have e4 : ∀ fr : List AV, (fillRow (List.length ([.int .i64 0] : List AV)) (List.replicate 0 ([.int .i64 0] : List AV)) (mkParts' fr [])).map (fun es => AV.fs es true) = some (.fs [] true) := by intro fr; simp [fillRow, mkParts']
  simp only [a33, c33, Ctx.enter]
  by_cases hl0 : l = []
  · subst hl0
    simp only [List.map_nil, if_true] at e3
    simp (disch := omega) only [RK_seq, RK_region0, RK_block, RK_cond, RK_skip, RK_ret, RK_exit, RE_seq, RE_seq_exit, RE_seq_ret, RE_block, RE_block_ret, RE_block_exit, RE_nil, RO_mv, RO_len, RO_bin, RO_binb, RO_un, RO_pick, RO_ixs, RO_fld, RO_part, RO_ixa, RO_ixv, RO_eqa, RO_eqn, RO_mx2, RO_mn2, RO_build2, RO_lit0, RO_lit1, RO_lit2, RO_mkfn0, RO_mkfn1, RO_cap, RO_slice_l, RO_slice_h, RO_slice_lh, RO_box, RO_alloc, RO_store, RO_clear, RO_callv0, RO_callv1, RO_callv2, RO_append, RO_load, RO_callf0, RO_callf1, RO_callf2, RO_callf3, RO_callf4, RO_guard, RO_nil, put_fr, opd_t, opd_c, upd_eq', upd_ne, ne_eq, ↓OM_some, ↓OM_none, ↓CM_bool, ↓CB_true, ↓CB_false, ↓GM_t, ↓GM_f, ↓GM_tup, OM_some, OM_none, CM_bool, CB_true, CB_false, GM_t, GM_f, GM_tup, reduceIte, reduceCtorEq, Nat.reduceLT, Nat.reduceEqDiff, not_false_eq_true, not_true_eq_false, bin_add, bin_sub, bin_mul, bin_eql, bin_neq, bin_lss, bin_leq, bin_gtr, bin_geq, bin_seql, bin_sneq, binb_eql, binb_neq, un_not, un_neg, pick_t, pick_f, mn_2, mx_2, len_nils, len_fs, len_row, eqa_2, bld2_int, lit2_int, decide_true, decide_false, Bool.not_true, Bool.not_false, Bool.false_eq_true, List.length_map, List.getD_cons_zero, List.getD_cons_succ, List.getD_nil, c33_r0, c33_r1, c33_r3, e, e4, e3, FinQ_ret, res_t, if_true]
    exact leave3 rfl (fun _ _ _ _ _ _ => by simp)
  · have hne : l.map encI ≠ [] := by simpa using hl0
    rw [if_neg hne, List.length_map] at e3
    simp (disch := omega) only [RK_seq, RK_region0, RK_block, RK_cond, RK_skip, RK_ret, RK_exit, RE_seq, RE_seq_exit, RE_seq_ret, RE_block, RE_block_ret, RE_block_exit, RE_nil, RO_mv, RO_len, RO_bin, RO_binb, RO_un, RO_pick, RO_ixs, RO_fld, RO_part, RO_ixa, RO_ixv, RO_eqa, RO_eqn, RO_mx2, RO_mn2, RO_build2, RO_lit0, RO_lit1, RO_lit2, RO_mkfn0, RO_mkfn1, RO_cap, RO_slice_l, RO_slice_h, RO_slice_lh, RO_box, RO_alloc, RO_store, RO_clear, RO_callv0, RO_callv1, RO_callv2, RO_append, RO_load, RO_callf0, RO_callf1, RO_callf2, RO_callf3, RO_callf4, RO_guard, RO_nil, put_fr, opd_t, opd_c, upd_eq', upd_ne, ne_eq, ↓OM_some, ↓OM_none, ↓CM_bool, ↓CB_true, ↓CB_false, ↓GM_t, ↓GM_f, ↓GM_tup, OM_some, OM_none, CM_bool, CB_true, CB_false, GM_t, GM_f, GM_tup, reduceIte, reduceCtorEq, Nat.reduceLT, Nat.reduceEqDiff, not_false_eq_true, not_true_eq_false, bin_add, bin_sub, bin_mul, bin_eql, bin_neq, bin_lss, bin_leq, bin_gtr, bin_geq, bin_seql, bin_sneq, binb_eql, binb_neq, un_not, un_neg, pick_t, pick_f, mn_2, mx_2, len_nils, len_fs, len_row, eqa_2, bld2_int, lit2_int, decide_true, decide_false, Bool.not_true, Bool.not_false, Bool.false_eq_true, List.length_map, List.getD_cons_zero, List.getD_cons_succ, List.getD_nil, c33_r0, c33_r1, c33_r3, e, e4, e3, FinQ_ret, res_t, hl0]
    have := leave3_row (lb := H.length) (h0 := H) (h := H ++ [.cells 0 (l.map encI)]) (i := H.length) (ver := 0) (o := 0) (n := l.length) (c := l.length) (z := 1) (es := l.map encI) (Nat.le_refl _) (by simp [rdEls, rdRow]; rw [List.take_of_length_le (by simp)]) (underI l)
    simpa using this

/-! ### Compact -/
theorem dd_lenI (l : List Int) : ∀ k, (dd 0 l k).length ≤ k
  | 0 => Nat.le_refl _
  | k + 1 => by
    have := dd_lenI l k
    simp only [dd]
    split
    · omega
    · simp; omega

/-- The inner loop: k elements are put, q were looked at. -/
theorem cmp_loop1I (l : List Int) (i ver c k0 : Nat) (hl : l.length < 4611686018427387904) (hk0 : 0 < k0) (hk0l : k0 < l.length) (hc : l.length ≤ c) (wp : Nat) (hwp : wp ≤ i) (rd : Option Nat) (all : List (List AV)) (hal : c ≤ all.length) (hall : all.take l.length = l.map encI)
    (Q : Ex → St → Prop)
    (q0 : ∀ (f' : Nat → AV) (h' : Heap) (all' : List (List AV)), h' = H.set i (.cells ver all') → all'.length = all.length → all'.take (dd 0 l l.length).length = (dd 0 l l.length).map encI → (dd 0 l l.length).length < l.length →
      f' 0 = .row i ver 0 l.length c 1 → f' 3 = .int .i64 (dd 0 l l.length).length → Q (.exit 2) ⟨mkfr 61 f', [], h'⟩)
    (f : Nat → AV) (h0 : f 0 = .row i ver 0 l.length c 1) (h4 : f 4 = .row i ver k0 (l.length - k0) (c - k0) 1) (q : Nat) (hq : k0 + 1 ≤ q) (hql : q ≤ l.length) (h3 : f 3 = .int .i64 (dd 0 l q).length) (h5 : f 5 = .int .i64 ((q - k0 : Nat) : Int))
    (hkq : (dd 0 l q).length < q) (all' : List (List AV)) (ha1 : all'.length = all.length) (ha2 : all'.take (dd 0 l q).length = (dd 0 l q).map encI) (ha3 : ∀ x, q ≤ x + 1 → all'[x]? = all[x]?) (ha4 : ∀ x, x < l.length → ∃ cs, all'[x]? = some cs ∧ cs.length = 1) (hi : i < H.length) :
    R (T p23 p36) ⟨wp, rd⟩ c37_l1 ⟨mkfr 61 f, [], H.set i (.cells ver all')⟩ Q := by
  rw [c37_l1, R_loop, ← c37_l1, c37_lb1]
  have hH : (H.set i (.cells ver all'))[i]? = some (.cells ver all') := List.getElem?_set_self hi
  have get : ∀ x, (hx : x < l.length) → all[x]? = some (encI l[x]) := by
    intro x hx
    have := congrArg (fun t => t[x]?) hall
    simpa [List.getElem?_take, hx] using this
  by_cases hlt : q < l.length
  · have e1 : (((q - k0 : Nat) : Int) < ((l.length - k0 : Nat) : Int)) = True := by simp; omega
    have e2 : ((q - k0 : Nat) : Int) - 1 = ((q - k0 - 1 : Nat) : Int) := by omega
    have i1 := ixs_rowo (z := 1) (i := i) (ver := ver) (o := k0) (n := l.length - k0) (c := c - k0) (k := .i64) (j := q - k0) (by omega)
    have i2 := ixs_rowo (z := 1) (i := i) (ver := ver) (o := k0) (n := l.length - k0) (c := c - k0) (k := .i64) (j := q - k0 - 1) (by omega)
    rw [show k0 + (q - k0) = q by omega] at i1
    rw [show k0 + (q - k0 - 1) = q - 1 by omega] at i2
    have d1 := ld_row (ag := false) (n := 1) hH (j := q) (x := valI l[q]) (cs := encI l[q]) (by rw [ha3 q (by omega)]; exact get q hlt) partI
    have d2 := ld_row (ag := false) (n := 1) hH (j := q - 1) (x := valI l[q - 1]) (cs := encI l[q - 1]) (by rw [ha3 (q - 1) (by omega)]; exact get (q - 1) (by omega)) partI
    have g1 : l.getD q 0 = l[q] := by simp [List.getD_eq_getElem?_getD, hlt]
    have g2 : l.getD (q - 1) 0 = l[q - 1] := by simp [List.getD_eq_getElem?_getD, show q - 1 < l.length by omega]
    have hdd : dd 0 l (q + 1) = if l[q] = l[q - 1] then dd 0 l q else dd 0 l q ++ [l[q]] := by
      simp only [dd, g1, g2, show 0 < q by omega, true_and]
    have e5 : ((q - k0 : Nat) : Int) + 1 = ((q + 1 - k0 : Nat) : Int) := by omega
    by_cases hx : l[q] = l[q - 1]
    · rw [if_pos hx] at hdd
      simp (disch := omega) only [RK_seq, RK_region0, RK_block, RK_cond, RK_skip, RK_ret, RK_exit, RE_seq, RE_seq_exit, RE_seq_ret, RE_block, RE_block_ret, RE_block_exit, RE_nil, RO_mv, RO_len, RO_bin, RO_binb, RO_un, RO_pick, RO_ixs, RO_fld, RO_part, RO_ixa, RO_ixv, RO_eqa, RO_eqn, RO_mx2, RO_mn2, RO_build2, RO_lit0, RO_lit1, RO_lit2, RO_mkfn0, RO_mkfn1, RO_cap, RO_slice_l, RO_slice_h, RO_slice_lh, RO_box, RO_alloc, RO_store, RO_clear, RO_callv0, RO_callv1, RO_callv2, RO_append, RO_load, RO_callf0, RO_callf1, RO_callf2, RO_callf3, RO_callf4, RO_guard, RO_nil, put_fr, opd_t, opd_c, upd_eq', upd_ne, ne_eq, ↓OM_some, ↓OM_none, ↓CM_bool, ↓CB_true, ↓CB_false, ↓GM_t, ↓GM_f, ↓GM_tup, OM_some, OM_none, CM_bool, CB_true, CB_false, GM_t, GM_f, GM_tup, reduceIte, reduceCtorEq, Nat.reduceLT, Nat.reduceEqDiff, not_false_eq_true, not_true_eq_false, bin_add, bin_sub, bin_mul, bin_eql, bin_neq, bin_lss, bin_leq, bin_gtr, bin_geq, bin_seql, bin_sneq, binb_eql, binb_neq, un_not, un_neg, pick_t, pick_f, mn_2, mx_2, len_nils, len_fs, len_row, eqa_2, bld2_int, lit2_int, decide_true, decide_false, Bool.not_true, Bool.not_false, Bool.false_eq_true, List.length_map, List.getD_cons_zero, List.getD_cons_succ, List.getD_nil, c37_r8, c37_r9, c37_r12, h0, h3, h4, h5, e1, e2, i1, i2, d1, d2, neqI, hx, wrap64]
      exact cmp_loop1I l i ver c k0 hl hk0 hk0l hc wp hwp rd all hal hall Q q0 _ (by simp [upd', h0]) (by simp [upd', h4]) (q + 1) (by omega) hlt (by simp [upd', h3, hdd]) (by simp [upd', e5]) (by rw [hdd]; omega) all' ha1 (by rw [hdd]; exact ha2) (fun x hx => ha3 x (by omega)) ha4 hi
    · rw [if_neg hx] at hdd
      have hkl : (dd 0 l q).length < l.length := by omega
      obtain ⟨K, hK⟩ : ∃ K, (dd 0 l q).length = K := ⟨_, rfl⟩
      rw [hK] at h3 ha2 hkq hkl
      have i3 := ixs_row (z := 1) (i := i) (ver := ver) (n := l.length) (c := c) (k := .i64) (j := K) hkl
      obtain ⟨old, ho1, ho2⟩ := ha4 K hkl
      have s1 := st_row (wp := wp) (n := 1) (x := valI l[q]) (cs := encI l[q]) hH ho1 hwp rfl rfl rfl ho2
      rw [List.set_set] at s1
      simp (disch := omega) only [RK_seq, RK_region0, RK_block, RK_cond, RK_skip, RK_ret, RK_exit, RE_seq, RE_seq_exit, RE_seq_ret, RE_block, RE_block_ret, RE_block_exit, RE_nil, RO_mv, RO_len, RO_bin, RO_binb, RO_un, RO_pick, RO_ixs, RO_fld, RO_part, RO_ixa, RO_ixv, RO_eqa, RO_eqn, RO_mx2, RO_mn2, RO_build2, RO_lit0, RO_lit1, RO_lit2, RO_mkfn0, RO_mkfn1, RO_cap, RO_slice_l, RO_slice_h, RO_slice_lh, RO_box, RO_alloc, RO_store, RO_clear, RO_callv0, RO_callv1, RO_callv2, RO_append, RO_load, RO_callf0, RO_callf1, RO_callf2, RO_callf3, RO_callf4, RO_guard, RO_nil, put_fr, opd_t, opd_c, upd_eq', upd_ne, ne_eq, ↓OM_some, ↓OM_none, ↓CM_bool, ↓CB_true, ↓CB_false, ↓GM_t, ↓GM_f, ↓GM_tup, OM_some, OM_none, CM_bool, CB_true, CB_false, GM_t, GM_f, GM_tup, reduceIte, reduceCtorEq, Nat.reduceLT, Nat.reduceEqDiff, not_false_eq_true, not_true_eq_false, bin_add, bin_sub, bin_mul, bin_eql, bin_neq, bin_lss, bin_leq, bin_gtr, bin_geq, bin_seql, bin_sneq, binb_eql, binb_neq, un_not, un_neg, pick_t, pick_f, mn_2, mx_2, len_nils, len_fs, len_row, eqa_2, bld2_int, lit2_int, decide_true, decide_false, Bool.not_true, Bool.not_false, Bool.false_eq_true, List.length_map, List.getD_cons_zero, List.getD_cons_succ, List.getD_nil, c37_r8, c37_r9, c37_r10, c37_r11, c37_r12, h0, h3, h4, h5, e1, e2, i1, i2, i3, d1, d2, s1, neqI, hx, wrap64]
      exact cmp_loop1I l i ver c k0 hl hk0 hk0l hc wp hwp rd all hal hall Q q0 _ (by simp [upd', h0]) (by simp [upd', h4]) (q + 1) (by omega) hlt (by simp [upd', hdd, hK]) (by simp [upd', e5]) (by rw [hdd]; simp; omega) (all'.set K (encI l[q])) (by simpa using ha1)
        (by
          rw [hdd, List.length_append, hK, List.map_append, ← ha2]
          exact take_set ho1)
        (fun x hx => by rw [List.getElem?_set_ne (by omega)]; exact ha3 x (by omega))
        (fun x hx => by
          by_cases e : K = x
          · subst e
            exact ⟨_, List.getElem?_set_self (List.getElem?_eq_some_iff.1 ho1).1, rfl⟩
          · rw [List.getElem?_set_ne e]; exact ha4 x hx) hi
  · have : q = l.length := by omega
    subst this
    have e1 : (((l.length - k0 : Nat) : Int) < ((l.length - k0 : Nat) : Int)) = False := by simp
    simp (disch := omega) only [RK_seq, RK_region0, RK_block, RK_cond, RK_skip, RK_ret, RK_exit, RE_seq, RE_seq_exit, RE_seq_ret, RE_block, RE_block_ret, RE_block_exit, RE_nil, RO_mv, RO_len, RO_bin, RO_binb, RO_un, RO_pick, RO_ixs, RO_fld, RO_part, RO_ixa, RO_ixv, RO_eqa, RO_eqn, RO_mx2, RO_mn2, RO_build2, RO_lit0, RO_lit1, RO_lit2, RO_mkfn0, RO_mkfn1, RO_cap, RO_slice_l, RO_slice_h, RO_slice_lh, RO_box, RO_alloc, RO_store, RO_clear, RO_callv0, RO_callv1, RO_callv2, RO_append, RO_load, RO_callf0, RO_callf1, RO_callf2, RO_callf3, RO_callf4, RO_guard, RO_nil, put_fr, opd_t, opd_c, upd_eq', upd_ne, ne_eq, ↓OM_some, ↓OM_none, ↓CM_bool, ↓CB_true, ↓CB_false, ↓GM_t, ↓GM_f, ↓GM_tup, OM_some, OM_none, CM_bool, CB_true, CB_false, GM_t, GM_f, GM_tup, reduceIte, reduceCtorEq, Nat.reduceLT, Nat.reduceEqDiff, not_false_eq_true, not_true_eq_false, bin_add, bin_sub, bin_mul, bin_eql, bin_neq, bin_lss, bin_leq, bin_gtr, bin_geq, bin_seql, bin_sneq, binb_eql, binb_neq, un_not, un_neg, pick_t, pick_f, mn_2, mx_2, len_nils, len_fs, len_row, eqa_2, bld2_int, lit2_int, decide_true, decide_false, Bool.not_true, Bool.not_false, Bool.false_eq_true, List.length_map, List.getD_cons_zero, List.getD_cons_succ, List.getD_nil, c37_r8, h4, h5, e1]
    exact q0 _ _ all' rfl ha1 ha2 hkq h0 h3
termination_by l.length - q

/-- The outer loop: the first k elements are unlike their neighbours. -/
theorem cmp_loop0I (l : List Int) (i ver c : Nat) (hl : l.length < 4611686018427387904) (hc : l.length ≤ c) (wp : Nat) (hwp : wp ≤ i) (rd : Option Nat) (all : List (List AV)) (hal : c ≤ all.length) (hall : all.take l.length = l.map encI) (hH : H[i]? = some (.cells ver all))
    (Q : Ex → St → Prop)
    (q0 : dd 0 l l.length = l → ∀ f' : Nat → AV, f' 0 = .row i ver 0 l.length c 1 → Q (.exit 0) ⟨mkfr 61 f', [], H⟩)
    (q1 : ∀ (f' : Nat → AV) (all' : List (List AV)), c ≤ all'.length → all'.take (dd 0 l l.length).length = (dd 0 l l.length).map encI → f' 2 = .row i ver 0 (dd 0 l l.length).length c 1 → Q .ret ⟨mkfr 61 f', [], H.set i (.cells ver all')⟩)
    (f : Nat → AV) (h0 : f 0 = .row i ver 0 l.length c 1) (k : Nat) (hk : 1 ≤ k) (hkl : k ≤ l.length) (h3 : f 3 = .int .i64 k) (hd : dd 0 l k = l.take k) :
    R (T p23 p36) ⟨wp, rd⟩ c37_l0 ⟨mkfr 61 f, [], H⟩ Q := by
  rw [c37_l0, R_loop, ← c37_l0, c37_lb0]
  have hi := (List.getElem?_eq_some_iff.1 hH).1
  have get : ∀ x, (hx : x < l.length) → all[x]? = some (encI l[x]) := by
    intro x hx
    have := congrArg (fun t => t[x]?) hall
    simpa [List.getElem?_take, hx] using this
  by_cases hlt : k < l.length
  · have e1 : ((k : Int) < (l.length : Int)) = True := by simp; omega
    have e2 : (k : Int) - 1 = ((k - 1 : Nat) : Int) := by omega
    have i1 := ixs_row (z := 1) (i := i) (ver := ver) (n := l.length) (c := c) (k := .i64) (j := k) hlt
    have i2 := ixs_row (z := 1) (i := i) (ver := ver) (n := l.length) (c := c) (k := .i64) (j := k - 1) (by omega)
    have d1 := ld_row (ag := false) (n := 1) hH (j := k) (x := valI l[k]) (cs := encI l[k]) (get k hlt) partI
    have d2 := ld_row (ag := false) (n := 1) hH (j := k - 1) (x := valI l[k - 1]) (cs := encI l[k - 1]) (get (k - 1) (by omega)) partI
    have g1 : l.getD k 0 = l[k] := by simp [List.getD_eq_getElem?_getD, hlt]
    have g2 : l.getD (k - 1) 0 = l[k - 1] := by simp [List.getD_eq_getElem?_getD, show k - 1 < l.length by omega]
    have hdd : dd 0 l (k + 1) = if l[k] = l[k - 1] then dd 0 l k else dd 0 l k ++ [l[k]] := by
      simp only [dd, g1, g2, show 0 < k by omega, true_and]
    by_cases hx : l[k] = l[k - 1]
    · rw [if_pos hx] at hdd
      have s0 := cut_row (z := 1) (i := i) (ver := ver) (n := l.length) (c := c) (k := k) (by omega) hc hlt
      simp (disch := omega) only [RK_seq, RK_region0, RK_block, RK_cond, RK_skip, RK_ret, RK_exit, RE_seq, RE_seq_exit, RE_seq_ret, RE_block, RE_block_ret, RE_block_exit, RE_nil, RO_mv, RO_len, RO_bin, RO_binb, RO_un, RO_pick, RO_ixs, RO_fld, RO_part, RO_ixa, RO_ixv, RO_eqa, RO_eqn, RO_mx2, RO_mn2, RO_build2, RO_lit0, RO_lit1, RO_lit2, RO_mkfn0, RO_mkfn1, RO_cap, RO_slice_l, RO_slice_h, RO_slice_lh, RO_box, RO_alloc, RO_store, RO_clear, RO_callv0, RO_callv1, RO_callv2, RO_append, RO_load, RO_callf0, RO_callf1, RO_callf2, RO_callf3, RO_callf4, RO_guard, RO_nil, put_fr, opd_t, opd_c, upd_eq', upd_ne, ne_eq, ↓OM_some, ↓OM_none, ↓CM_bool, ↓CB_true, ↓CB_false, ↓GM_t, ↓GM_f, ↓GM_tup, OM_some, OM_none, CM_bool, CB_true, CB_false, GM_t, GM_f, GM_tup, reduceIte, reduceCtorEq, Nat.reduceLT, Nat.reduceEqDiff, not_false_eq_true, not_true_eq_false, bin_add, bin_sub, bin_mul, bin_eql, bin_neq, bin_lss, bin_leq, bin_gtr, bin_geq, bin_seql, bin_sneq, binb_eql, binb_neq, un_not, un_neg, pick_t, pick_f, mn_2, mx_2, len_nils, len_fs, len_row, eqa_2, bld2_int, lit2_int, decide_true, decide_false, Bool.not_true, Bool.not_false, Bool.false_eq_true, List.length_map, List.getD_cons_zero, List.getD_cons_succ, List.getD_nil, c37_r4, c37_r5, c37_r6, c37_r7, h0, h3, e1, e2, i1, i2, d1, d2, s0, eqI, hx, wrap64, Option.map_some, Option.map_none]
      rw [← set_self hH]
      refine cmp_loop1I l i ver c k hl (by omega) hlt hc wp hwp rd all hal hall _ (fun f' h' all' e3 e4 e5 e6 e7 e8 => ?_) _ (by simp [upd', h0]) (by simp [upd']) (k + 1) (by omega) hlt (by simp [upd', h3, hdd, hd]; omega) (by simp [upd']) (by rw [hdd, hd]; simp; omega) all rfl (by rw [hdd, hd, List.length_take, Nat.min_eq_left hkl, List.map_take, ← hall, List.take_take, Nat.min_eq_left hkl]) (fun x hx => rfl) (fun x hx => ⟨_, get x hx, rfl⟩) hi
      subst e3
      have hH' : (H.set i (.cells ver all'))[i]? = some (.cells ver all') := List.getElem?_set_self hi
      obtain ⟨K, hK⟩ : ∃ K, (dd 0 l l.length).length = K := ⟨_, rfl⟩
      rw [hK] at e5 e6 e8
      have s1 := cut_row (z := 1) (i := i) (ver := ver) (n := l.length) (c := c) (k := K) (by omega) hc (by omega)
      have s2 := cut_row0 (z := 1) (i := i) (ver := ver) (n := l.length) (c := c) (k := K) (by omega) hc
      have s3 := clear_row (wp := wp) (zero := [.int .i64 0]) (c := c - K) (k := K) (m := l.length - K) hH' hwp (by omega)
      rw [List.set_set] at s3
      simp only [List.length_cons, List.length_nil, Nat.zero_add, Nat.reduceAdd] at s3
      simp (disch := omega) only [RK_seq, RK_region0, RK_block, RK_cond, RK_skip, RK_ret, RK_exit, RE_seq, RE_seq_exit, RE_seq_ret, RE_block, RE_block_ret, RE_block_exit, RE_nil, RO_mv, RO_len, RO_bin, RO_binb, RO_un, RO_pick, RO_ixs, RO_fld, RO_part, RO_ixa, RO_ixv, RO_eqa, RO_eqn, RO_mx2, RO_mn2, RO_build2, RO_lit0, RO_lit1, RO_lit2, RO_mkfn0, RO_mkfn1, RO_cap, RO_slice_l, RO_slice_h, RO_slice_lh, RO_box, RO_alloc, RO_store, RO_clear, RO_callv0, RO_callv1, RO_callv2, RO_append, RO_load, RO_callf0, RO_callf1, RO_callf2, RO_callf3, RO_callf4, RO_guard, RO_nil, put_fr, opd_t, opd_c, upd_eq', upd_ne, ne_eq, ↓OM_some, ↓OM_none, ↓CM_bool, ↓CB_true, ↓CB_false, ↓GM_t, ↓GM_f, ↓GM_tup, OM_some, OM_none, CM_bool, CB_true, CB_false, GM_t, GM_f, GM_tup, reduceIte, reduceCtorEq, Nat.reduceLT, Nat.reduceEqDiff, not_false_eq_true, not_true_eq_false, bin_add, bin_sub, bin_mul, bin_eql, bin_neq, bin_lss, bin_leq, bin_gtr, bin_geq, bin_seql, bin_sneq, binb_eql, binb_neq, un_not, un_neg, pick_t, pick_f, mn_2, mx_2, len_nils, len_fs, len_row, eqa_2, bld2_int, lit2_int, decide_true, decide_false, Bool.not_true, Bool.not_false, Bool.false_eq_true, List.length_map, List.getD_cons_zero, List.getD_cons_succ, List.getD_nil, c37_r13, c37_r14, e7, e8, s1, s2, s3, Option.map_some, Option.map_none]
      refine q1 _ _ ?_ ?_ (by simp [upd', hK])
      · simp; omega
      · rw [List.take_append_of_le_length (by simp; omega), List.take_append_of_le_length (by simp; omega), List.take_take, hK, Nat.min_self]; exact e5
    · rw [if_neg hx] at hdd
      simp (disch := omega) only [RK_seq, RK_region0, RK_block, RK_cond, RK_skip, RK_ret, RK_exit, RE_seq, RE_seq_exit, RE_seq_ret, RE_block, RE_block_ret, RE_block_exit, RE_nil, RO_mv, RO_len, RO_bin, RO_binb, RO_un, RO_pick, RO_ixs, RO_fld, RO_part, RO_ixa, RO_ixv, RO_eqa, RO_eqn, RO_mx2, RO_mn2, RO_build2, RO_lit0, RO_lit1, RO_lit2, RO_mkfn0, RO_mkfn1, RO_cap, RO_slice_l, RO_slice_h, RO_slice_lh, RO_box, RO_alloc, RO_store, RO_clear, RO_callv0, RO_callv1, RO_callv2, RO_append, RO_load, RO_callf0, RO_callf1, RO_callf2, RO_callf3, RO_callf4, RO_guard, RO_nil, put_fr, opd_t, opd_c, upd_eq', upd_ne, ne_eq, ↓OM_some, ↓OM_none, ↓CM_bool, ↓CB_true, ↓CB_false, ↓GM_t, ↓GM_f, ↓GM_tup, OM_some, OM_none, CM_bool, CB_true, CB_false, GM_t, GM_f, GM_tup, reduceIte, reduceCtorEq, Nat.reduceLT, Nat.reduceEqDiff, not_false_eq_true, not_true_eq_false, bin_add, bin_sub, bin_mul, bin_eql, bin_neq, bin_lss, bin_leq, bin_gtr, bin_geq, bin_seql, bin_sneq, binb_eql, binb_neq, un_not, un_neg, pick_t, pick_f, mn_2, mx_2, len_nils, len_fs, len_row, eqa_2, bld2_int, lit2_int, decide_true, decide_false, Bool.not_true, Bool.not_false, Bool.false_eq_true, List.length_map, List.getD_cons_zero, List.getD_cons_succ, List.getD_nil, c37_r4, c37_r5, c37_r15, h0, h3, e1, e2, i1, i2, d1, d2, eqI, hx, wrap64]
      exact cmp_loop0I l i ver c hl hc wp hwp rd all hal hall hH Q q0 q1 _ (by simp [upd', h0]) (k + 1) (by omega) hlt (by simp [upd']) (by rw [hdd, hd, List.take_succ_eq_append_getElem hlt])
  · have : k = l.length := by omega
    subst this
    simp (disch := omega) only [RK_seq, RK_region0, RK_block, RK_cond, RK_skip, RK_ret, RK_exit, RE_seq, RE_seq_exit, RE_seq_ret, RE_block, RE_block_ret, RE_block_exit, RE_nil, RO_mv, RO_len, RO_bin, RO_binb, RO_un, RO_pick, RO_ixs, RO_fld, RO_part, RO_ixa, RO_ixv, RO_eqa, RO_eqn, RO_mx2, RO_mn2, RO_build2, RO_lit0, RO_lit1, RO_lit2, RO_mkfn0, RO_mkfn1, RO_cap, RO_slice_l, RO_slice_h, RO_slice_lh, RO_box, RO_alloc, RO_store, RO_clear, RO_callv0, RO_callv1, RO_callv2, RO_append, RO_load, RO_callf0, RO_callf1, RO_callf2, RO_callf3, RO_callf4, RO_guard, RO_nil, put_fr, opd_t, opd_c, upd_eq', upd_ne, ne_eq, ↓OM_some, ↓OM_none, ↓CM_bool, ↓CB_true, ↓CB_false, ↓GM_t, ↓GM_f, ↓GM_tup, OM_some, OM_none, CM_bool, CB_true, CB_false, GM_t, GM_f, GM_tup, reduceIte, reduceCtorEq, Nat.reduceLT, Nat.reduceEqDiff, not_false_eq_true, not_true_eq_false, bin_add, bin_sub, bin_mul, bin_eql, bin_neq, bin_lss, bin_leq, bin_gtr, bin_geq, bin_seql, bin_sneq, binb_eql, binb_neq, un_not, un_neg, pick_t, pick_f, mn_2, mx_2, len_nils, len_fs, len_row, eqa_2, bld2_int, lit2_int, decide_true, decide_false, Bool.not_true, Bool.not_false, Bool.false_eq_true, List.length_map, List.getD_cons_zero, List.getD_cons_succ, List.getD_nil, c37_r4, h0, h3, Int.lt_irrefl]
    exact q0 (by rw [hd, List.take_length]) _ (by simp [upd', h0])
termination_by l.length - k

theorem compact_specI {v : AV} {l : List Int} {i : Nat} (ho : Ow 1 cx.wp H v (l.map encI) i) (hl : l.length < 4611686018427387904) (hw : cx.wp ≤ H.length) :
    ∃ v' bx, callF (T p23 p36) (ev (T p23 p36)) cx 37 [v] H = some (v', H.set i bx) ∧ Ow 1 cx.wp (H.set i bx) v' ((dd 0 l l.length).map encI) i := by
  obtain ⟨ver, c, all, rfl, hH, hall, hal, hlc⟩ := ho.row
  rw [List.length_map] at *
  have hi := ho.lt
  by_cases h2 : l.length < 2
  · have hdd : dd 0 l l.length = l := by
      cases l with
      | nil => rfl
      | cons a l =>
        cases l with
        | nil => simp [dd]
        | cons b l => simp only [List.length_cons] at h2; omega
    refine ⟨.row i ver 0 l.length c 1, .cells ver all, ?_, ?_⟩
    · refine callF_code (a := a37) rfl hw (Nat.le_of_ble_eq_true rfl) ?_
      simp only [a37, c37]
      have e1 : ((l.length : Int) < 2) = True := by simp; omega
      simp (disch := omega) only [RK_seq, RK_region0, RK_block, RK_cond, RK_skip, RK_ret, RK_exit, RE_seq, RE_seq_exit, RE_seq_ret, RE_block, RE_block_ret, RE_block_exit, RE_nil, RO_mv, RO_len, RO_bin, RO_binb, RO_un, RO_pick, RO_ixs, RO_fld, RO_part, RO_ixa, RO_ixv, RO_eqa, RO_eqn, RO_mx2, RO_mn2, RO_build2, RO_lit0, RO_lit1, RO_lit2, RO_mkfn0, RO_mkfn1, RO_cap, RO_slice_l, RO_slice_h, RO_slice_lh, RO_box, RO_alloc, RO_store, RO_clear, RO_callv0, RO_callv1, RO_callv2, RO_append, RO_load, RO_callf0, RO_callf1, RO_callf2, RO_callf3, RO_callf4, RO_guard, RO_nil, put_fr, opd_t, opd_c, upd_eq', upd_ne, ne_eq, ↓OM_some, ↓OM_none, ↓CM_bool, ↓CB_true, ↓CB_false, ↓GM_t, ↓GM_f, ↓GM_tup, OM_some, OM_none, CM_bool, CB_true, CB_false, GM_t, GM_f, GM_tup, reduceIte, reduceCtorEq, Nat.reduceLT, Nat.reduceEqDiff, not_false_eq_true, not_true_eq_false, bin_add, bin_sub, bin_mul, bin_eql, bin_neq, bin_lss, bin_leq, bin_gtr, bin_geq, bin_seql, bin_sneq, binb_eql, binb_neq, un_not, un_neg, pick_t, pick_f, mn_2, mx_2, len_nils, len_fs, len_row, eqa_2, bld2_int, lit2_int, decide_true, decide_false, Bool.not_true, Bool.not_false, Bool.false_eq_true, List.length_map, List.getD_cons_zero, List.getD_cons_succ, List.getD_nil, c37_r0, c37_r1, c37_r2, e1, FinQ_ret, res_t]
      rw [set_self hH]; rfl
    · rw [set_self hH, hdd]
      simpa using ho
  · have main : ∃ all', callF (T p23 p36) (ev (T p23 p36)) cx 37 [.row i ver 0 l.length c 1] H = some (.row i ver 0 (dd 0 l l.length).length c 1, H.set i (.cells ver all')) ∧ c ≤ all'.length ∧ all'.take (dd 0 l l.length).length = (dd 0 l l.length).map encI := by
      suffices hs : ∃ r : AV × Heap, callF (T p23 p36) (ev (T p23 p36)) cx 37 [.row i ver 0 l.length c 1] H = some r ∧ ∃ all', r = (.row i ver 0 (dd 0 l l.length).length c 1, H.set i (.cells ver all')) ∧ c ≤ all'.length ∧ all'.take (dd 0 l l.length).length = (dd 0 l l.length).map encI by
        obtain ⟨r, h1, all', rfl, h3⟩ := hs
        exact ⟨all', h1, h3⟩
      refine callF_codeE (a := a37) rfl hw (Nat.le_of_ble_eq_true rfl) ?_
      simp only [a37, c37, Ctx.enter]
      have e1 : ((l.length : Int) < 2) = False := by simp; omega
      simp (disch := omega) only [RK_seq, RK_region0, RK_block, RK_cond, RK_skip, RK_ret, RK_exit, RE_seq, RE_seq_exit, RE_seq_ret, RE_block, RE_block_ret, RE_block_exit, RE_nil, RO_mv, RO_len, RO_bin, RO_binb, RO_un, RO_pick, RO_ixs, RO_fld, RO_part, RO_ixa, RO_ixv, RO_eqa, RO_eqn, RO_mx2, RO_mn2, RO_build2, RO_lit0, RO_lit1, RO_lit2, RO_mkfn0, RO_mkfn1, RO_cap, RO_slice_l, RO_slice_h, RO_slice_lh, RO_box, RO_alloc, RO_store, RO_clear, RO_callv0, RO_callv1, RO_callv2, RO_append, RO_load, RO_callf0, RO_callf1, RO_callf2, RO_callf3, RO_callf4, RO_guard, RO_nil, put_fr, opd_t, opd_c, upd_eq', upd_ne, ne_eq, ↓OM_some, ↓OM_none, ↓CM_bool, ↓CB_true, ↓CB_false, ↓GM_t, ↓GM_f, ↓GM_tup, OM_some, OM_none, CM_bool, CB_true, CB_false, GM_t, GM_f, GM_tup, reduceIte, reduceCtorEq, Nat.reduceLT, Nat.reduceEqDiff, not_false_eq_true, not_true_eq_false, bin_add, bin_sub, bin_mul, bin_eql, bin_neq, bin_lss, bin_leq, bin_gtr, bin_geq, bin_seql, bin_sneq, binb_eql, binb_neq, un_not, un_neg, pick_t, pick_f, mn_2, mx_2, len_nils, len_fs, len_row, eqa_2, bld2_int, lit2_int, decide_true, decide_false, Bool.not_true, Bool.not_false, Bool.false_eq_true, List.length_map, List.getD_cons_zero, List.getD_cons_succ, List.getD_nil, c37_r0, c37_r1, c37_r3, e1]
      refine cmp_loop0I l i ver c hl hlc cx.wp ho.wp none all hal hall hH _ (fun hd f' g0 => ?_) (fun f' all' g1 g2 g3 => ?_) _ (by simp [upd']) 1 (Nat.le_refl _) (by omega) (by simp [upd']) ?_
      · simp (disch := omega) only [RK_seq, RK_region0, RK_block, RK_cond, RK_skip, RK_ret, RK_exit, RE_seq, RE_seq_exit, RE_seq_ret, RE_block, RE_block_ret, RE_block_exit, RE_nil, RO_mv, RO_len, RO_bin, RO_binb, RO_un, RO_pick, RO_ixs, RO_fld, RO_part, RO_ixa, RO_ixv, RO_eqa, RO_eqn, RO_mx2, RO_mn2, RO_build2, RO_lit0, RO_lit1, RO_lit2, RO_mkfn0, RO_mkfn1, RO_cap, RO_slice_l, RO_slice_h, RO_slice_lh, RO_box, RO_alloc, RO_store, RO_clear, RO_callv0, RO_callv1, RO_callv2, RO_append, RO_load, RO_callf0, RO_callf1, RO_callf2, RO_callf3, RO_callf4, RO_guard, RO_nil, put_fr, opd_t, opd_c, upd_eq', upd_ne, ne_eq, ↓OM_some, ↓OM_none, ↓CM_bool, ↓CB_true, ↓CB_false, ↓GM_t, ↓GM_f, ↓GM_tup, OM_some, OM_none, CM_bool, CB_true, CB_false, GM_t, GM_f, GM_tup, reduceIte, reduceCtorEq, Nat.reduceLT, Nat.reduceEqDiff, not_false_eq_true, not_true_eq_false, bin_add, bin_sub, bin_mul, bin_eql, bin_neq, bin_lss, bin_leq, bin_gtr, bin_geq, bin_seql, bin_sneq, binb_eql, binb_neq, un_not, un_neg, pick_t, pick_f, mn_2, mx_2, len_nils, len_fs, len_row, eqa_2, bld2_int, lit2_int, decide_true, decide_false, Bool.not_true, Bool.not_false, Bool.false_eq_true, List.length_map, List.getD_cons_zero, List.getD_cons_succ, List.getD_nil, c37_r16, g0, FinQ_ret, res_t]
        exact ⟨_, rfl, all, by rw [hd, set_self hH], hal, by rw [hd]; exact hall⟩
      · simp (disch := omega) only [RK_seq, RK_region0, RK_block, RK_cond, RK_skip, RK_ret, RK_exit, RE_seq, RE_seq_exit, RE_seq_ret, RE_block, RE_block_ret, RE_block_exit, RE_nil, RO_mv, RO_len, RO_bin, RO_binb, RO_un, RO_pick, RO_ixs, RO_fld, RO_part, RO_ixa, RO_ixv, RO_eqa, RO_eqn, RO_mx2, RO_mn2, RO_build2, RO_lit0, RO_lit1, RO_lit2, RO_mkfn0, RO_mkfn1, RO_cap, RO_slice_l, RO_slice_h, RO_slice_lh, RO_box, RO_alloc, RO_store, RO_clear, RO_callv0, RO_callv1, RO_callv2, RO_append, RO_load, RO_callf0, RO_callf1, RO_callf2, RO_callf3, RO_callf4, RO_guard, RO_nil, put_fr, opd_t, opd_c, upd_eq', upd_ne, ne_eq, ↓OM_some, ↓OM_none, ↓CM_bool, ↓CB_true, ↓CB_false, ↓GM_t, ↓GM_f, ↓GM_tup, OM_some, OM_none, CM_bool, CB_true, CB_false, GM_t, GM_f, GM_tup, reduceIte, reduceCtorEq, Nat.reduceLT, Nat.reduceEqDiff, not_false_eq_true, not_true_eq_false, bin_add, bin_sub, bin_mul, bin_eql, bin_neq, bin_lss, bin_leq, bin_gtr, bin_geq, bin_seql, bin_sneq, binb_eql, binb_neq, un_not, un_neg, pick_t, pick_f, mn_2, mx_2, len_nils, len_fs, len_row, eqa_2, bld2_int, lit2_int, decide_true, decide_false, Bool.not_true, Bool.not_false, Bool.false_eq_true, List.length_map, List.getD_cons_zero, List.getD_cons_succ, List.getD_nil, FinQ_ret, res_t, g3]
        exact ⟨_, rfl, all', rfl, g1, g2⟩
      · cases l with
        | nil => simp only [List.length_nil] at h2; omega
        | cons a l => simp [dd]
    obtain ⟨all', m1, m2, m3⟩ := main
    have hdl := dd_lenI l l.length
    exact ⟨_, _, m1, ⟨⟨ver, c, all', by simp, List.getElem?_set_self hi, by simpa using m3, m2, by simp; omega⟩, ho.wp, lensI _⟩⟩
end Go.Proofs.Tryt17A
end
