import Derived.Test.YtlnnhldhhaooiaaBd

set_option linter.unusedVariables false
set_option linter.unusedSimpArgs false
set_option linter.unusedSectionVars false
set_option linter.unnecessarySimpa false

section
namespace Go.Proofs.Tryt17A
open Go Go.AM
set_option linter.unusedSimpArgs false
set_option linter.unusedVariables false
variable {p23 p36 : Nat → List AV → Heap → Option (AV × Heap)} {cx : Ctx} {H : Heap}

/-- The heap is as it was, but for box i, and longer maybe. -/
def But (i : Nat) (H h : Heap) : Prop := H.length ≤ h.length ∧ ∀ j, j < H.length → j ≠ i → h[j]? = H[j]?

theorem But.refl (i : Nat) (H : Heap) : But i H H := ⟨Nat.le_refl _, fun _ _ _ => rfl⟩
theorem But.push {i : Nat} {H h : Heap} (hb : But i H h) (l : List Box) : But i H (h ++ l) :=
  ⟨by have := hb.1; simp; omega, fun j hj hne => by rw [List.getElem?_append_left (Nat.lt_of_lt_of_le hj hb.1)]; exact hb.2 j hj hne⟩
theorem But.set {i : Nat} {H h : Heap} (hb : But i H h) (bx : Box) : But i H (h.set i bx) :=
  ⟨by have := hb.1; simp; omega, fun j hj hne => by rw [List.getElem?_set_ne (Ne.symm hne)]; exact hb.2 j hj hne⟩

theorem del_loopP (p : (Int × Int) → Bool) (l : List (Int × Int)) (g : Nat) (cap : List AV) (i ver c : Nat) (hl : l.length < 4611686018427387904) (hc : l.length ≤ c) (wp : Nat) (hwp : wp ≤ i) (hwH : wp ≤ H.length) (hi : i < H.length) (all : List (List AV)) (hal : c ≤ all.length) (hall : all.take l.length = l.map encP)
    (hp : ∀ w x h, w ≤ h.length → But i H h → callF (T p23 p36) (ev (T p23 p36)) ⟨w, none⟩ g (valP x :: cap) h = some (.bool (p x), h))
    (Q : Ex → St → Prop)
    (q0 : ∀ (f' : Nat → AV) (h' : Heap) (all' : List (List AV)), But i H h' → h'[i]? = some (.cells ver all') → all'.length = all.length → all'.take (l.filter fun x => !p x).length = (l.filter fun x => !p x).map encP → (l.filter fun x => !p x).length < l.length →
      f' 0 = .row i ver 0 l.length c 2 → f' 5 = .int .i64 (l.filter fun x => !p x).length → Q (.exit 0) ⟨mkfr 42 f', [], h'⟩)
    (f : Nat → AV) (h0 : f 0 = .row i ver 0 l.length c 2) (h1 : f 1 = .fn g cap) (j : Nat) (hj : j ≤ l.length) (h6 : f 6 = .int .i64 j) (h5 : f 5 = .int .i64 ((l.take j).filter fun x => !p x).length)
    (hkj : ((l.take j).filter fun x => !p x).length < j) (h : Heap) (hb : But i H h) (all' : List (List AV)) (hH : h[i]? = some (.cells ver all')) (ha1 : all'.length = all.length) (ha2 : all'.take ((l.take j).filter fun x => !p x).length = ((l.take j).filter fun x => !p x).map encP) (ha3 : ∀ x, j ≤ x → all'[x]? = all[x]?)
    (ha4 : ∀ x, x < l.length → ∃ cs, all'[x]? = some cs ∧ cs.length = 2) :
    R (T p23 p36) ⟨wp, none⟩ c30_l0 ⟨mkfr 42 f, [], h⟩ Q := by
  rw [c30_l0, R_loop, ← c30_l0, c30_lb0]
  have get : ∀ x, (hx : x < l.length) → all[x]? = some (encP l[x]) := by
    intro x hx
    have := congrArg (fun t => t[x]?) hall
    simpa [List.getElem?_take, hx] using this
  have hih : i < h.length := (List.getElem?_eq_some_iff.1 hH).1
  have hwh : wp ≤ h.length := Nat.le_trans hwH hb.1
  by_cases hlt : j < l.length
  · have e1 : ((j : Int) < (l.length : Int)) = True := by simp; omega
    have i1 := ixs_row (z := 2) (i := i) (ver := ver) (n := l.length) (c := c) (k := .i64) (j := j) hlt
    have d1 := ld_row (ag := true) (n := 2) hH (j := j) (x := valP l[j]) (cs := encP l[j]) (by rw [ha3 j (Nat.le_refl _)]; exact get j hlt) partP
    have htk : (l.take (j + 1)).filter (fun x => !p x) = (l.take j).filter (fun x => !p x) ++ if p l[j] then [] else [l[j]] := by
      rw [List.take_succ_eq_append_getElem hlt, List.filter_append]
      cases hx : p l[j] <;> simp [hx]
    have hb1 : But i H (h ++ [.cells 0 [encP l[j]]]) := hb.push _
    have cz := cellsP (x := l[j])
    have sn := st_new (wp := wp) (h := h) (n := 2) (old := [.int .i64 0, .int .i64 0]) (x := valP l[j]) hwh cz rfl rfl rfl
    have ln := ld_new (h := h) (n := 2) (ag := true) (cs := encP l[j])
    rw [partP] at ln
    have c0 := hp wp l[j] h hwh hb
    have c1 := hp wp l[j] (h ++ [.cells 0 [encP l[j]]]) (by simp; omega) hb1
    have hH1 : (h ++ [.cells 0 [encP l[j]]])[i]? = some (.cells ver all') := by rw [List.getElem?_append_left hih]; exact hH
    cases hx : p l[j]
    · rw [hx] at htk
      simp only [Bool.false_eq_true, if_false] at htk
      obtain ⟨K, hK⟩ : ∃ K, ((l.take j).filter fun x => !p x).length = K := ⟨_, rfl⟩
      rw [hK] at h5 ha2 hkj
      have i3 := ixs_row (z := 2) (i := i) (ver := ver) (n := l.length) (c := c) (k := .i64) (j := K) (by omega)
      obtain ⟨old, ho1, ho2⟩ := ha4 K (by omega)
      have s1 := st_row (wp := wp) (n := 2) (x := valP l[j]) (cs := encP l[j]) hH ho1 hwp cz rfl rfl ho2
      have s2 := st_row (wp := wp) (n := 2) (x := valP l[j]) (cs := encP l[j]) hH1 ho1 hwp cz rfl rfl ho2
      have fin : ∀ (f' : Nat → AV) (h' : Heap), But i H h' → h'[i]? = some (.cells ver (all'.set K (encP l[j]))) → f' 0 = .row i ver 0 l.length c 2 → f' 1 = .fn g cap → f' 6 = .int .i64 ((j : Int) + 1) → f' 5 = .int .i64 ((K : Int) + 1) → R (T p23 p36) ⟨wp, none⟩ c30_l0 ⟨mkfr 42 f', [], h'⟩ Q := by
        intro f' h' b' g' g0 g1 g6 g5
        refine del_loopP p l g cap i ver c hl hc wp hwp hwH hi all hal hall hp Q q0 f' g0 g1 (j + 1) (by omega) (by rw [g6]; rfl) (by rw [htk]; simp [hK, g5]) (by rw [htk]; simp; omega) h' b' (all'.set K (encP l[j])) g' (by simpa using ha1) ?_ ?_ ?_
        · rw [htk, List.length_append, hK, List.map_append, ← ha2]
          exact take_set ho1
        · intro x hx'; rw [List.getElem?_set_ne (by omega)]; exact ha3 x (by omega)
        · intro x hx'
          by_cases e : K = x
          · subst e
            exact ⟨_, List.getElem?_set_self (List.getElem?_eq_some_iff.1 ho1).1, rfl⟩
          · rw [List.getElem?_set_ne e]; exact ha4 x hx'
      simp (disch := omega) only [RK_seq, RK_region0, RK_block, RK_cond, RK_skip, RK_ret, RK_exit, RE_seq, RE_seq_exit, RE_seq_ret, RE_block, RE_block_ret, RE_block_exit, RE_nil, RO_mv, RO_len, RO_bin, RO_binb, RO_un, RO_pick, RO_ixs, RO_fld, RO_part, RO_ixa, RO_ixv, RO_eqa, RO_eqn, RO_mx2, RO_mn2, RO_build2, RO_lit0, RO_lit1, RO_lit2, RO_mkfn0, RO_mkfn1, RO_cap, RO_slice_l, RO_slice_h, RO_slice_lh, RO_box, RO_alloc, RO_store, RO_clear, RO_callv0, RO_callv1, RO_callv2, RO_append, RO_load, RO_callf0, RO_callf1, RO_callf2, RO_callf3, RO_callf4, RO_guard, RO_nil, put_fr, opd_t, opd_c, upd_eq', upd_ne, ne_eq, ↓OM_some, ↓OM_none, ↓CM_bool, ↓CB_true, ↓CB_false, ↓GM_t, ↓GM_f, ↓GM_tup, OM_some, OM_none, CM_bool, CB_true, CB_false, GM_t, GM_f, GM_tup, reduceIte, reduceCtorEq, Nat.reduceLT, Nat.reduceEqDiff, not_false_eq_true, not_true_eq_false, bin_add, bin_sub, bin_mul, bin_eql, bin_neq, bin_lss, bin_leq, bin_gtr, bin_geq, bin_seql, bin_sneq, binb_eql, binb_neq, un_not, un_neg, pick_t, pick_f, mn_2, mx_2, len_nils, len_fs, len_row, eqa_2, bld2_int, lit2_int, decide_true, decide_false, Bool.not_true, Bool.not_false, Bool.false_eq_true, List.length_map, List.getD_cons_zero, List.getD_cons_succ, List.getD_nil, c30_r5, c30_r6, c30_r7, c30_r8, c30_r9, c30_r10, h0, h1, h5, h6, e1, i1, i3, d1, sn, ln, s1, s2, cvM_fn, List.cons_append, List.nil_append, c0, c1, hx, wrap64]
      first
        | exact fin _ _ (hb1.set _) (List.getElem?_set_self (by simp; omega)) (by simp [upd', h0]) (by simp [upd', h1]) (by simp [upd']) (by simp [upd'])
        | exact fin _ _ (hb.set _) (List.getElem?_set_self hih) (by simp [upd', h0]) (by simp [upd', h1]) (by simp [upd']) (by simp [upd'])
    · rw [hx] at htk
      simp only [if_true, List.append_nil] at htk
      have fin : ∀ (f' : Nat → AV) (h' : Heap), But i H h' → h'[i]? = some (.cells ver all') → f' 0 = .row i ver 0 l.length c 2 → f' 1 = .fn g cap → f' 6 = .int .i64 ((j : Int) + 1) → f' 5 = .int .i64 ((l.take j).filter fun x => !p x).length → R (T p23 p36) ⟨wp, none⟩ c30_l0 ⟨mkfr 42 f', [], h'⟩ Q := by
        intro f' h' b' g' g0 g1 g6 g5
        exact del_loopP p l g cap i ver c hl hc wp hwp hwH hi all hal hall hp Q q0 f' g0 g1 (j + 1) (by omega) (by rw [g6]; rfl) (by rw [htk, g5]) (by rw [htk]; omega) h' b' all' g' ha1 (by rw [htk]; exact ha2) (fun x hx' => ha3 x (by omega)) ha4
      simp (disch := omega) only [RK_seq, RK_region0, RK_block, RK_cond, RK_skip, RK_ret, RK_exit, RE_seq, RE_seq_exit, RE_seq_ret, RE_block, RE_block_ret, RE_block_exit, RE_nil, RO_mv, RO_len, RO_bin, RO_binb, RO_un, RO_pick, RO_ixs, RO_fld, RO_part, RO_ixa, RO_ixv, RO_eqa, RO_eqn, RO_mx2, RO_mn2, RO_build2, RO_lit0, RO_lit1, RO_lit2, RO_mkfn0, RO_mkfn1, RO_cap, RO_slice_l, RO_slice_h, RO_slice_lh, RO_box, RO_alloc, RO_store, RO_clear, RO_callv0, RO_callv1, RO_callv2, RO_append, RO_load, RO_callf0, RO_callf1, RO_callf2, RO_callf3, RO_callf4, RO_guard, RO_nil, put_fr, opd_t, opd_c, upd_eq', upd_ne, ne_eq, ↓OM_some, ↓OM_none, ↓CM_bool, ↓CB_true, ↓CB_false, ↓GM_t, ↓GM_f, ↓GM_tup, OM_some, OM_none, CM_bool, CB_true, CB_false, GM_t, GM_f, GM_tup, reduceIte, reduceCtorEq, Nat.reduceLT, Nat.reduceEqDiff, not_false_eq_true, not_true_eq_false, bin_add, bin_sub, bin_mul, bin_eql, bin_neq, bin_lss, bin_leq, bin_gtr, bin_geq, bin_seql, bin_sneq, binb_eql, binb_neq, un_not, un_neg, pick_t, pick_f, mn_2, mx_2, len_nils, len_fs, len_row, eqa_2, bld2_int, lit2_int, decide_true, decide_false, Bool.not_true, Bool.not_false, Bool.false_eq_true, List.length_map, List.getD_cons_zero, List.getD_cons_succ, List.getD_nil, c30_r5, c30_r6, c30_r7, c30_r10, h0, h1, h6, e1, i1, d1, sn, ln, cvM_fn, List.cons_append, List.nil_append, c0, c1, hx, wrap64]
      first
        | exact fin _ _ hb1 hH1 (by simp [upd', h0]) (by simp [upd', h1]) (by simp [upd']) (by simp [upd', h5])
        | exact fin _ _ hb hH (by simp [upd', h0]) (by simp [upd', h1]) (by simp [upd']) (by simp [upd', h5])
  · have : j = l.length := by omega
    subst this
    rw [List.take_length] at *
    simp (disch := omega) only [RK_seq, RK_region0, RK_block, RK_cond, RK_skip, RK_ret, RK_exit, RE_seq, RE_seq_exit, RE_seq_ret, RE_block, RE_block_ret, RE_block_exit, RE_nil, RO_mv, RO_len, RO_bin, RO_binb, RO_un, RO_pick, RO_ixs, RO_fld, RO_part, RO_ixa, RO_ixv, RO_eqa, RO_eqn, RO_mx2, RO_mn2, RO_build2, RO_lit0, RO_lit1, RO_lit2, RO_mkfn0, RO_mkfn1, RO_cap, RO_slice_l, RO_slice_h, RO_slice_lh, RO_box, RO_alloc, RO_store, RO_clear, RO_callv0, RO_callv1, RO_callv2, RO_append, RO_load, RO_callf0, RO_callf1, RO_callf2, RO_callf3, RO_callf4, RO_guard, RO_nil, put_fr, opd_t, opd_c, upd_eq', upd_ne, ne_eq, ↓OM_some, ↓OM_none, ↓CM_bool, ↓CB_true, ↓CB_false, ↓GM_t, ↓GM_f, ↓GM_tup, OM_some, OM_none, CM_bool, CB_true, CB_false, GM_t, GM_f, GM_tup, reduceIte, reduceCtorEq, Nat.reduceLT, Nat.reduceEqDiff, not_false_eq_true, not_true_eq_false, bin_add, bin_sub, bin_mul, bin_eql, bin_neq, bin_lss, bin_leq, bin_gtr, bin_geq, bin_seql, bin_sneq, binb_eql, binb_neq, un_not, un_neg, pick_t, pick_f, mn_2, mx_2, len_nils, len_fs, len_row, eqa_2, bld2_int, lit2_int, decide_true, decide_false, Bool.not_true, Bool.not_false, Bool.false_eq_true, List.length_map, List.getD_cons_zero, List.getD_cons_succ, List.getD_nil, c30_r5, h0, h6, Int.lt_irrefl]
    exact q0 _ _ all' hb hH ha1 ha2 hkj (by simp [upd', h0]) (by simp [upd', h5])
termination_by l.length - j

theorem del_specP {v : AV} {l : List (Int × Int)} {i : Nat} (p : (Int × Int) → Bool) (g : Nat) (cap : List AV) (ho : Ow 2 cx.wp H v (l.map encP) i) (hl : l.length < 4611686018427387904) (hw : cx.wp ≤ H.length)
    (hp : ∀ w x h, w ≤ h.length → But i H h → callF (T p23 p36) (ev (T p23 p36)) ⟨w, none⟩ g (valP x :: cap) h = some (.bool (p x), h)) :
    ∃ r, callF (T p23 p36) (ev (T p23 p36)) cx 30 [v, .fn g cap] H = some r ∧ Ow 2 cx.wp r.2 r.1 ((l.filter fun x => !p x).map encP) i ∧ But i H r.2 := by
  have hix := ixf_specP (cx := ⟨cx.wp, none⟩) p l v g cap ho.sl hl (fun x => hp _ x H (Nat.le_refl _) (But.refl _ _)) hw
  refine callF_codeE (a := a30) rfl hw (Nat.le_of_ble_eq_true rfl) ?_
  simp only [a30, c30, Ctx.enter]
  by_cases h1 : ixFP p l 0 = -1
  · have hf : l.filter (fun x => !p x) = l := by
      rw [ixFP_none] at h1
      rw [List.filter_eq_self]
      intro x hx
      simp [h1 x (by simpa using hx)]
    simp (disch := omega) only [RK_seq, RK_region0, RK_block, RK_cond, RK_skip, RK_ret, RK_exit, RE_seq, RE_seq_exit, RE_seq_ret, RE_block, RE_block_ret, RE_block_exit, RE_nil, RO_mv, RO_len, RO_bin, RO_binb, RO_un, RO_pick, RO_ixs, RO_fld, RO_part, RO_ixa, RO_ixv, RO_eqa, RO_eqn, RO_mx2, RO_mn2, RO_build2, RO_lit0, RO_lit1, RO_lit2, RO_mkfn0, RO_mkfn1, RO_cap, RO_slice_l, RO_slice_h, RO_slice_lh, RO_box, RO_alloc, RO_store, RO_clear, RO_callv0, RO_callv1, RO_callv2, RO_append, RO_load, RO_callf0, RO_callf1, RO_callf2, RO_callf3, RO_callf4, RO_guard, RO_nil, put_fr, opd_t, opd_c, upd_eq', upd_ne, ne_eq, ↓OM_some, ↓OM_none, ↓CM_bool, ↓CB_true, ↓CB_false, ↓GM_t, ↓GM_f, ↓GM_tup, OM_some, OM_none, CM_bool, CB_true, CB_false, GM_t, GM_f, GM_tup, reduceIte, reduceCtorEq, Nat.reduceLT, Nat.reduceEqDiff, not_false_eq_true, not_true_eq_false, bin_add, bin_sub, bin_mul, bin_eql, bin_neq, bin_lss, bin_leq, bin_gtr, bin_geq, bin_seql, bin_sneq, binb_eql, binb_neq, un_not, un_neg, pick_t, pick_f, mn_2, mx_2, len_nils, len_fs, len_row, eqa_2, bld2_int, lit2_int, decide_true, decide_false, Bool.not_true, Bool.not_false, Bool.false_eq_true, List.length_map, List.getD_cons_zero, List.getD_cons_succ, List.getD_nil, c30_r0, c30_r1, c30_r2, c30_r3, hix, h1, FinQ_ret, res_t]
    exact ⟨_, leave0, by rw [hf]; exact ho, But.refl _ _⟩
  · obtain ⟨ver, c, all, rfl, hH, hall, hal, hlc⟩ := ho.row
    rw [List.length_map] at *
    have hi := ho.lt
    obtain ⟨k, k1, _, hk, k2, k3⟩ := ixFP_some p l 0 h1
    have e2 : ((k : Int) = -1) = False := eq_false (by omega)
    have get : ∀ x, (hx : x < l.length) → all[x]? = some (encP l[x]) := by
      intro x hx
      have := congrArg (fun t => t[x]?) hall
      simpa [List.getElem?_take, hx] using this
    have hf : (l.take (k + 1)).filter (fun x => !p x) = l.take k := by
      rw [List.take_succ_eq_append_getElem hk, List.filter_append]
      have a1 : (l.take k).filter (fun x => !p x) = l.take k := by
        rw [List.filter_eq_self]
        intro x hx
        obtain ⟨j, hj, rfl⟩ := List.getElem_of_mem hx
        simp at hj
        rw [List.getElem_take]
        simp [k3 j (Nat.zero_le _) (by omega)]
      rw [a1]; simp [k2]
    simp (disch := omega) only [RK_seq, RK_region0, RK_block, RK_cond, RK_skip, RK_ret, RK_exit, RE_seq, RE_seq_exit, RE_seq_ret, RE_block, RE_block_ret, RE_block_exit, RE_nil, RO_mv, RO_len, RO_bin, RO_binb, RO_un, RO_pick, RO_ixs, RO_fld, RO_part, RO_ixa, RO_ixv, RO_eqa, RO_eqn, RO_mx2, RO_mn2, RO_build2, RO_lit0, RO_lit1, RO_lit2, RO_mkfn0, RO_mkfn1, RO_cap, RO_slice_l, RO_slice_h, RO_slice_lh, RO_box, RO_alloc, RO_store, RO_clear, RO_callv0, RO_callv1, RO_callv2, RO_append, RO_load, RO_callf0, RO_callf1, RO_callf2, RO_callf3, RO_callf4, RO_guard, RO_nil, put_fr, opd_t, opd_c, upd_eq', upd_ne, ne_eq, ↓OM_some, ↓OM_none, ↓CM_bool, ↓CB_true, ↓CB_false, ↓GM_t, ↓GM_f, ↓GM_tup, OM_some, OM_none, CM_bool, CB_true, CB_false, GM_t, GM_f, GM_tup, reduceIte, reduceCtorEq, Nat.reduceLT, Nat.reduceEqDiff, not_false_eq_true, not_true_eq_false, bin_add, bin_sub, bin_mul, bin_eql, bin_neq, bin_lss, bin_leq, bin_gtr, bin_geq, bin_seql, bin_sneq, binb_eql, binb_neq, un_not, un_neg, pick_t, pick_f, mn_2, mx_2, len_nils, len_fs, len_row, eqa_2, bld2_int, lit2_int, decide_true, decide_false, Bool.not_true, Bool.not_false, Bool.false_eq_true, List.length_map, List.getD_cons_zero, List.getD_cons_succ, List.getD_nil, c30_r0, c30_r1, c30_r2, c30_r4, hix, k1, e2, wrap64]
    refine del_loopP p l g cap i ver c hl hlc cx.wp ho.wp hw hi all hal hall hp _ (fun f' h' all' b1 b2 b3 b4 b5 b6 b7 => ?_) _ (by simp [upd']) (by simp [upd']) (k + 1) (by omega) (by simp [upd']) (by rw [hf]; simp [upd', Nat.min_eq_left (Nat.le_of_lt hk)]) (by rw [hf]; simp; omega) H (But.refl _ _) all hH rfl (by rw [hf, List.length_take, Nat.min_eq_left (Nat.le_of_lt hk), List.map_take, ← hall, List.take_take, Nat.min_eq_left (Nat.le_of_lt hk)]) (fun x hx => rfl) (fun x hx => ⟨_, get x hx, rfl⟩)
    obtain ⟨K, hK⟩ : ∃ K, (l.filter fun x => !p x).length = K := ⟨_, rfl⟩
    rw [hK] at b4 b5 b7
    have s1 := cut_row (z := 2) (i := i) (ver := ver) (n := l.length) (c := c) (k := K) (by omega) hlc (by omega)
    have s2 := cut_row0 (z := 2) (i := i) (ver := ver) (n := l.length) (c := c) (k := K) (by omega) hlc
    have s3 := clear_row (wp := cx.wp) (zero := [.int .i64 0, .int .i64 0]) (c := c - K) (k := K) (m := l.length - K) b2 ho.wp (by omega)
    simp only [List.length_cons, List.length_nil, Nat.zero_add, Nat.reduceAdd] at s3
    simp (disch := omega) only [RK_seq, RK_region0, RK_block, RK_cond, RK_skip, RK_ret, RK_exit, RE_seq, RE_seq_exit, RE_seq_ret, RE_block, RE_block_ret, RE_block_exit, RE_nil, RO_mv, RO_len, RO_bin, RO_binb, RO_un, RO_pick, RO_ixs, RO_fld, RO_part, RO_ixa, RO_ixv, RO_eqa, RO_eqn, RO_mx2, RO_mn2, RO_build2, RO_lit0, RO_lit1, RO_lit2, RO_mkfn0, RO_mkfn1, RO_cap, RO_slice_l, RO_slice_h, RO_slice_lh, RO_box, RO_alloc, RO_store, RO_clear, RO_callv0, RO_callv1, RO_callv2, RO_append, RO_load, RO_callf0, RO_callf1, RO_callf2, RO_callf3, RO_callf4, RO_guard, RO_nil, put_fr, opd_t, opd_c, upd_eq', upd_ne, ne_eq, ↓OM_some, ↓OM_none, ↓CM_bool, ↓CB_true, ↓CB_false, ↓GM_t, ↓GM_f, ↓GM_tup, OM_some, OM_none, CM_bool, CB_true, CB_false, GM_t, GM_f, GM_tup, reduceIte, reduceCtorEq, Nat.reduceLT, Nat.reduceEqDiff, not_false_eq_true, not_true_eq_false, bin_add, bin_sub, bin_mul, bin_eql, bin_neq, bin_lss, bin_leq, bin_gtr, bin_geq, bin_seql, bin_sneq, binb_eql, binb_neq, un_not, un_neg, pick_t, pick_f, mn_2, mx_2, len_nils, len_fs, len_row, eqa_2, bld2_int, lit2_int, decide_true, decide_false, Bool.not_true, Bool.not_false, Bool.false_eq_true, List.length_map, List.getD_cons_zero, List.getD_cons_succ, List.getD_nil, c30_r11, c30_r12, b6, b7, s1, s2, s3, Option.map_some, Option.map_none, FinQ_ret, res_t]
    refine ⟨_, leave0, ⟨⟨ver, c, _, by simp [hK], List.getElem?_set_self (List.getElem?_eq_some_iff.1 b2).1, ?_, ?_, by simp [hK]; omega⟩, ho.wp, lensP _⟩, b1.set _⟩
    · rw [List.length_map, hK, List.take_append_of_le_length (by simp; omega), List.take_append_of_le_length (by simp; omega), List.take_take, Nat.min_self]; exact b4
    · simp; omega

theorem del_emptyP {v : AV} (g : Nat) (cap : List AV) (hv : v = .nils ∨ v = .fs [] true) (hw : cx.wp ≤ H.length) (hp : ∀ x : (Int × Int), callF (T p23 p36) (ev (T p23 p36)) ⟨H.length, none⟩ g (valP x :: cap) H = some (.bool false, H)) :
    callF (T p23 p36) (ev (T p23 p36)) cx 30 [v, .fn g cap] H = some (v, H) := by
  have hs : Sl 2 H v (([] : List (Int × Int)).map encP) := by
    rcases hv with rfl | rfl
    · exact .nils
    · exact .fs (by simp)
  have hix := ixf_specP (cx := ⟨cx.wp, none⟩) (fun _ => false) [] v g cap hs (by decide) hp hw
  have h1 : ixFP (fun _ => false) [] 0 = -1 := by rw [ixFP_none]; simp
  refine callF_code (a := a30) rfl hw (Nat.le_of_ble_eq_true rfl) ?_
  simp only [a30, c30, Ctx.enter]
  simp (disch := omega) only [RK_seq, RK_region0, RK_block, RK_cond, RK_skip, RK_ret, RK_exit, RE_seq, RE_seq_exit, RE_seq_ret, RE_block, RE_block_ret, RE_block_exit, RE_nil, RO_mv, RO_len, RO_bin, RO_binb, RO_un, RO_pick, RO_ixs, RO_fld, RO_part, RO_ixa, RO_ixv, RO_eqa, RO_eqn, RO_mx2, RO_mn2, RO_build2, RO_lit0, RO_lit1, RO_lit2, RO_mkfn0, RO_mkfn1, RO_cap, RO_slice_l, RO_slice_h, RO_slice_lh, RO_box, RO_alloc, RO_store, RO_clear, RO_callv0, RO_callv1, RO_callv2, RO_append, RO_load, RO_callf0, RO_callf1, RO_callf2, RO_callf3, RO_callf4, RO_guard, RO_nil, put_fr, opd_t, opd_c, upd_eq', upd_ne, ne_eq, ↓OM_some, ↓OM_none, ↓CM_bool, ↓CB_true, ↓CB_false, ↓GM_t, ↓GM_f, ↓GM_tup, OM_some, OM_none, CM_bool, CB_true, CB_false, GM_t, GM_f, GM_tup, reduceIte, reduceCtorEq, Nat.reduceLT, Nat.reduceEqDiff, not_false_eq_true, not_true_eq_false, bin_add, bin_sub, bin_mul, bin_eql, bin_neq, bin_lss, bin_leq, bin_gtr, bin_geq, bin_seql, bin_sneq, binb_eql, binb_neq, un_not, un_neg, pick_t, pick_f, mn_2, mx_2, len_nils, len_fs, len_row, eqa_2, bld2_int, lit2_int, decide_true, decide_false, Bool.not_true, Bool.not_false, Bool.false_eq_true, List.length_map, List.getD_cons_zero, List.getD_cons_succ, List.getD_nil, c30_r0, c30_r1, c30_r2, c30_r3, hix, h1, FinQ_ret, res_t]
  exact leave0
theorem del_loopI (p : Int → Bool) (l : List Int) (g : Nat) (cap : List AV) (i ver c : Nat) (hl : l.length < 4611686018427387904) (hc : l.length ≤ c) (wp : Nat) (hwp : wp ≤ i) (hwH : wp ≤ H.length) (hi : i < H.length) (all : List (List AV)) (hal : c ≤ all.length) (hall : all.take l.length = l.map encI)
    (hp : ∀ w x h, w ≤ h.length → But i H h → callF (T p23 p36) (ev (T p23 p36)) ⟨w, none⟩ g (valI x :: cap) h = some (.bool (p x), h))
    (Q : Ex → St → Prop)
    (q0 : ∀ (f' : Nat → AV) (h' : Heap) (all' : List (List AV)), But i H h' → h'[i]? = some (.cells ver all') → all'.length = all.length → all'.take (l.filter fun x => !p x).length = (l.filter fun x => !p x).map encI → (l.filter fun x => !p x).length < l.length →
      f' 0 = .row i ver 0 l.length c 1 → f' 5 = .int .i64 (l.filter fun x => !p x).length → Q (.exit 0) ⟨mkfr 42 f', [], h'⟩)
    (f : Nat → AV) (h0 : f 0 = .row i ver 0 l.length c 1) (h1 : f 1 = .fn g cap) (j : Nat) (hj : j ≤ l.length) (h6 : f 6 = .int .i64 j) (h5 : f 5 = .int .i64 ((l.take j).filter fun x => !p x).length)
    (hkj : ((l.take j).filter fun x => !p x).length < j) (h : Heap) (hb : But i H h) (all' : List (List AV)) (hH : h[i]? = some (.cells ver all')) (ha1 : all'.length = all.length) (ha2 : all'.take ((l.take j).filter fun x => !p x).length = ((l.take j).filter fun x => !p x).map encI) (ha3 : ∀ x, j ≤ x → all'[x]? = all[x]?)
    (ha4 : ∀ x, x < l.length → ∃ cs, all'[x]? = some cs ∧ cs.length = 1) :
    R (T p23 p36) ⟨wp, none⟩ c34_l0 ⟨mkfr 42 f, [], h⟩ Q := by
  rw [c34_l0, R_loop, ← c34_l0, c34_lb0]
  have get : ∀ x, (hx : x < l.length) → all[x]? = some (encI l[x]) := by
    intro x hx
    have := congrArg (fun t => t[x]?) hall
    simpa [List.getElem?_take, hx] using this
  have hih : i < h.length := (List.getElem?_eq_some_iff.1 hH).1
  have hwh : wp ≤ h.length := Nat.le_trans hwH hb.1
  by_cases hlt : j < l.length
  · have e1 : ((j : Int) < (l.length : Int)) = True := by simp; omega
    have i1 := ixs_row (z := 1) (i := i) (ver := ver) (n := l.length) (c := c) (k := .i64) (j := j) hlt
    have d1 := ld_row (ag := false) (n := 1) hH (j := j) (x := valI l[j]) (cs := encI l[j]) (by rw [ha3 j (Nat.le_refl _)]; exact get j hlt) partI
    have htk : (l.take (j + 1)).filter (fun x => !p x) = (l.take j).filter (fun x => !p x) ++ if p l[j] then [] else [l[j]] := by
      rw [List.take_succ_eq_append_getElem hlt, List.filter_append]
      cases hx : p l[j] <;> simp [hx]
    have hb1 : But i H (h ++ [.cells 0 [encI l[j]]]) := hb.push _
    have cz := cellsI (x := l[j])
    have sn := st_new (wp := wp) (h := h) (n := 1) (old := [.int .i64 0]) (x := valI l[j]) hwh cz rfl rfl rfl
    have ln := ld_new (h := h) (n := 1) (ag := false) (cs := encI l[j])
    rw [partI] at ln
    have c0 := hp wp l[j] h hwh hb
    have c1 := hp wp l[j] (h ++ [.cells 0 [encI l[j]]]) (by simp; omega) hb1
    have hH1 : (h ++ [.cells 0 [encI l[j]]])[i]? = some (.cells ver all') := by rw [List.getElem?_append_left hih]; exact hH
    cases hx : p l[j]
    · rw [hx] at htk
      simp only [Bool.false_eq_true, if_false] at htk
      obtain ⟨K, hK⟩ : ∃ K, ((l.take j).filter fun x => !p x).length = K := ⟨_, rfl⟩
      rw [hK] at h5 ha2 hkj
      have i3 := ixs_row (z := 1) (i := i) (ver := ver) (n := l.length) (c := c) (k := .i64) (j := K) (by omega)
      obtain ⟨old, ho1, ho2⟩ := ha4 K (by omega)
      have s1 := st_row (wp := wp) (n := 1) (x := valI l[j]) (cs := encI l[j]) hH ho1 hwp cz rfl rfl ho2
      have s2 := st_row (wp := wp) (n := 1) (x := valI l[j]) (cs := encI l[j]) hH1 ho1 hwp cz rfl rfl ho2
      have fin : ∀ (f' : Nat → AV) (h' : Heap), But i H h' → h'[i]? = some (.cells ver (all'.set K (encI l[j]))) → f' 0 = .row i ver 0 l.length c 1 → f' 1 = .fn g cap → f' 6 = .int .i64 ((j : Int) + 1) → f' 5 = .int .i64 ((K : Int) + 1) → R (T p23 p36) ⟨wp, none⟩ c34_l0 ⟨mkfr 42 f', [], h'⟩ Q := by
        intro f' h' b' g' g0 g1 g6 g5
        refine del_loopI p l g cap i ver c hl hc wp hwp hwH hi all hal hall hp Q q0 f' g0 g1 (j + 1) (by omega) (by rw [g6]; rfl) (by rw [htk]; simp [hK, g5]) (by rw [htk]; simp; omega) h' b' (all'.set K (encI l[j])) g' (by simpa using ha1) ?_ ?_ ?_
        · rw [htk, List.length_append, hK, List.map_append, ← ha2]
          exact take_set ho1
        · intro x hx'; rw [List.getElem?_set_ne (by omega)]; exact ha3 x (by omega)
        · intro x hx'
          by_cases e : K = x
          · subst e
            exact ⟨_, List.getElem?_set_self (List.getElem?_eq_some_iff.1 ho1).1, rfl⟩
          · rw [List.getElem?_set_ne e]; exact ha4 x hx'
      simp (disch := omega) only [RK_seq, RK_region0, RK_block, RK_cond, RK_skip, RK_ret, RK_exit, RE_seq, RE_seq_exit, RE_seq_ret, RE_block, RE_block_ret, RE_block_exit, RE_nil, RO_mv, RO_len, RO_bin, RO_binb, RO_un, RO_pick, RO_ixs, RO_fld, RO_part, RO_ixa, RO_ixv, RO_eqa, RO_eqn, RO_mx2, RO_mn2, RO_build2, RO_lit0, RO_lit1, RO_lit2, RO_mkfn0, RO_mkfn1, RO_cap, RO_slice_l, RO_slice_h, RO_slice_lh, RO_box, RO_alloc, RO_store, RO_clear, RO_callv0, RO_callv1, RO_callv2, RO_append, RO_load, RO_callf0, RO_callf1, RO_callf2, RO_callf3, RO_callf4, RO_guard, RO_nil, put_fr, opd_t, opd_c, upd_eq', upd_ne, ne_eq, ↓OM_some, ↓OM_none, ↓CM_bool, ↓CB_true, ↓CB_false, ↓GM_t, ↓GM_f, ↓GM_tup, OM_some, OM_none, CM_bool, CB_true, CB_false, GM_t, GM_f, GM_tup, reduceIte, reduceCtorEq, Nat.reduceLT, Nat.reduceEqDiff, not_false_eq_true, not_true_eq_false, bin_add, bin_sub, bin_mul, bin_eql, bin_neq, bin_lss, bin_leq, bin_gtr, bin_geq, bin_seql, bin_sneq, binb_eql, binb_neq, un_not, un_neg, pick_t, pick_f, mn_2, mx_2, len_nils, len_fs, len_row, eqa_2, bld2_int, lit2_int, decide_true, decide_false, Bool.not_true, Bool.not_false, Bool.false_eq_true, List.length_map, List.getD_cons_zero, List.getD_cons_succ, List.getD_nil, c34_r5, c34_r6, c34_r7, c34_r8, c34_r9, c34_r10, h0, h1, h5, h6, e1, i1, i3, d1, sn, ln, s1, s2, cvM_fn, List.cons_append, List.nil_append, c0, c1, hx, wrap64]
      first
        | exact fin _ _ (hb1.set _) (List.getElem?_set_self (by simp; omega)) (by simp [upd', h0]) (by simp [upd', h1]) (by simp [upd']) (by simp [upd'])
        | exact fin _ _ (hb.set _) (List.getElem?_set_self hih) (by simp [upd', h0]) (by simp [upd', h1]) (by simp [upd']) (by simp [upd'])
    · rw [hx] at htk
      simp only [if_true, List.append_nil] at htk
      have fin : ∀ (f' : Nat → AV) (h' : Heap), But i H h' → h'[i]? = some (.cells ver all') → f' 0 = .row i ver 0 l.length c 1 → f' 1 = .fn g cap → f' 6 = .int .i64 ((j : Int) + 1) → f' 5 = .int .i64 ((l.take j).filter fun x => !p x).length → R (T p23 p36) ⟨wp, none⟩ c34_l0 ⟨mkfr 42 f', [], h'⟩ Q := by
        intro f' h' b' g' g0 g1 g6 g5
        exact del_loopI p l g cap i ver c hl hc wp hwp hwH hi all hal hall hp Q q0 f' g0 g1 (j + 1) (by omega) (by rw [g6]; rfl) (by rw [htk, g5]) (by rw [htk]; omega) h' b' all' g' ha1 (by rw [htk]; exact ha2) (fun x hx' => ha3 x (by omega)) ha4
      simp (disch := omega) only [RK_seq, RK_region0, RK_block, RK_cond, RK_skip, RK_ret, RK_exit, RE_seq, RE_seq_exit, RE_seq_ret, RE_block, RE_block_ret, RE_block_exit, RE_nil, RO_mv, RO_len, RO_bin, RO_binb, RO_un, RO_pick, RO_ixs, RO_fld, RO_part, RO_ixa, RO_ixv, RO_eqa, RO_eqn, RO_mx2, RO_mn2, RO_build2, RO_lit0, RO_lit1, RO_lit2, RO_mkfn0, RO_mkfn1, RO_cap, RO_slice_l, RO_slice_h, RO_slice_lh, RO_box, RO_alloc, RO_store, RO_clear, RO_callv0, RO_callv1, RO_callv2, RO_append, RO_load, RO_callf0, RO_callf1, RO_callf2, RO_callf3, RO_callf4, RO_guard, RO_nil, put_fr, opd_t, opd_c, upd_eq', upd_ne, ne_eq, ↓OM_some, ↓OM_none, ↓CM_bool, ↓CB_true, ↓CB_false, ↓GM_t, ↓GM_f, ↓GM_tup, OM_some, OM_none, CM_bool, CB_true, CB_false, GM_t, GM_f, GM_tup, reduceIte, reduceCtorEq, Nat.reduceLT, Nat.reduceEqDiff, not_false_eq_true, not_true_eq_false, bin_add, bin_sub, bin_mul, bin_eql, bin_neq, bin_lss, bin_leq, bin_gtr, bin_geq, bin_seql, bin_sneq, binb_eql, binb_neq, un_not, un_neg, pick_t, pick_f, mn_2, mx_2, len_nils, len_fs, len_row, eqa_2, bld2_int, lit2_int, decide_true, decide_false, Bool.not_true, Bool.not_false, Bool.false_eq_true, List.length_map, List.getD_cons_zero, List.getD_cons_succ, List.getD_nil, c34_r5, c34_r6, c34_r7, c34_r10, h0, h1, h6, e1, i1, d1, sn, ln, cvM_fn, List.cons_append, List.nil_append, c0, c1, hx, wrap64]
      first
        | exact fin _ _ hb1 hH1 (by simp [upd', h0]) (by simp [upd', h1]) (by simp [upd']) (by simp [upd', h5])
        | exact fin _ _ hb hH (by simp [upd', h0]) (by simp [upd', h1]) (by simp [upd']) (by simp [upd', h5])
  · have : j = l.length := by omega
    subst this
    rw [List.take_length] at *
    simp (disch := omega) only [RK_seq, RK_region0, RK_block, RK_cond, RK_skip, RK_ret, RK_exit, RE_seq, RE_seq_exit, RE_seq_ret, RE_block, RE_block_ret, RE_block_exit, RE_nil, RO_mv, RO_len, RO_bin, RO_binb, RO_un, RO_pick, RO_ixs, RO_fld, RO_part, RO_ixa, RO_ixv, RO_eqa, RO_eqn, RO_mx2, RO_mn2, RO_build2, RO_lit0, RO_lit1, RO_lit2, RO_mkfn0, RO_mkfn1, RO_cap, RO_slice_l, RO_slice_h, RO_slice_lh, RO_box, RO_alloc, RO_store, RO_clear, RO_callv0, RO_callv1, RO_callv2, RO_append, RO_load, RO_callf0, RO_callf1, RO_callf2, RO_callf3, RO_callf4, RO_guard, RO_nil, put_fr, opd_t, opd_c, upd_eq', upd_ne, ne_eq, ↓OM_some, ↓OM_none, ↓CM_bool, ↓CB_true, ↓CB_false, ↓GM_t, ↓GM_f, ↓GM_tup, OM_some, OM_none, CM_bool, CB_true, CB_false, GM_t, GM_f, GM_tup, reduceIte, reduceCtorEq, Nat.reduceLT, Nat.reduceEqDiff, not_false_eq_true, not_true_eq_false, bin_add, bin_sub, bin_mul, bin_eql, bin_neq, bin_lss, bin_leq, bin_gtr, bin_geq, bin_seql, bin_sneq, binb_eql, binb_neq, un_not, un_neg, pick_t, pick_f, mn_2, mx_2, len_nils, len_fs, len_row, eqa_2, bld2_int, lit2_int, decide_true, decide_false, Bool.not_true, Bool.not_false, Bool.false_eq_true, List.length_map, List.getD_cons_zero, List.getD_cons_succ, List.getD_nil, c34_r5, h0, h6, Int.lt_irrefl]
    exact q0 _ _ all' hb hH ha1 ha2 hkj (by simp [upd', h0]) (by simp [upd', h5])
termination_by l.length - j

theorem del_specI {v : AV} {l : List Int} {i : Nat} (p : Int → Bool) (g : Nat) (cap : List AV) (ho : Ow 1 cx.wp H v (l.map encI) i) (hl : l.length < 4611686018427387904) (hw : cx.wp ≤ H.length)
    (hp : ∀ w x h, w ≤ h.length → But i H h → callF (T p23 p36) (ev (T p23 p36)) ⟨w, none⟩ g (valI x :: cap) h = some (.bool (p x), h)) :
    ∃ r, callF (T p23 p36) (ev (T p23 p36)) cx 34 [v, .fn g cap] H = some r ∧ Ow 1 cx.wp r.2 r.1 ((l.filter fun x => !p x).map encI) i ∧ But i H r.2 := by
  have hix := ixf_specI (cx := ⟨cx.wp, none⟩) p l v g cap ho.sl hl (fun x => hp _ x H (Nat.le_refl _) (But.refl _ _)) hw
  refine callF_codeE (a := a34) rfl hw (Nat.le_of_ble_eq_true rfl) ?_
  simp only [a34, c34, Ctx.enter]
  by_cases h1 : ixFI p l 0 = -1
  · have hf : l.filter (fun x => !p x) = l := by
      rw [ixFI_none] at h1
      rw [List.filter_eq_self]
      intro x hx
      simp [h1 x (by simpa using hx)]
    simp (disch := omega) only [RK_seq, RK_region0, RK_block, RK_cond, RK_skip, RK_ret, RK_exit, RE_seq, RE_seq_exit, RE_seq_ret, RE_block, RE_block_ret, RE_block_exit, RE_nil, RO_mv, RO_len, RO_bin, RO_binb, RO_un, RO_pick, RO_ixs, RO_fld, RO_part, RO_ixa, RO_ixv, RO_eqa, RO_eqn, RO_mx2, RO_mn2, RO_build2, RO_lit0, RO_lit1, RO_lit2, RO_mkfn0, RO_mkfn1, RO_cap, RO_slice_l, RO_slice_h, RO_slice_lh, RO_box, RO_alloc, RO_store, RO_clear, RO_callv0, RO_callv1, RO_callv2, RO_append, RO_load, RO_callf0, RO_callf1, RO_callf2, RO_callf3, RO_callf4, RO_guard, RO_nil, put_fr, opd_t, opd_c, upd_eq', upd_ne, ne_eq, ↓OM_some, ↓OM_none, ↓CM_bool, ↓CB_true, ↓CB_false, ↓GM_t, ↓GM_f, ↓GM_tup, OM_some, OM_none, CM_bool, CB_true, CB_false, GM_t, GM_f, GM_tup, reduceIte, reduceCtorEq, Nat.reduceLT, Nat.reduceEqDiff, not_false_eq_true, not_true_eq_false, bin_add, bin_sub, bin_mul, bin_eql, bin_neq, bin_lss, bin_leq, bin_gtr, bin_geq, bin_seql, bin_sneq, binb_eql, binb_neq, un_not, un_neg, pick_t, pick_f, mn_2, mx_2, len_nils, len_fs, len_row, eqa_2, bld2_int, lit2_int, decide_true, decide_false, Bool.not_true, Bool.not_false, Bool.false_eq_true, List.length_map, List.getD_cons_zero, List.getD_cons_succ, List.getD_nil, c34_r0, c34_r1, c34_r2, c34_r3, hix, h1, FinQ_ret, res_t]
    exact ⟨_, leave0, by rw [hf]; exact ho, But.refl _ _⟩
  · obtain ⟨ver, c, all, rfl, hH, hall, hal, hlc⟩ := ho.row
    rw [List.length_map] at *
    have hi := ho.lt
    obtain ⟨k, k1, _, hk, k2, k3⟩ := ixFI_some p l 0 h1
    have e2 : ((k : Int) = -1) = False := eq_false (by omega)
    have get : ∀ x, (hx : x < l.length) → all[x]? = some (encI l[x]) := by
      intro x hx
      have := congrArg (fun t => t[x]?) hall
      simpa [List.getElem?_take, hx] using this
    have hf : (l.take (k + 1)).filter (fun x => !p x) = l.take k := by
      rw [List.take_succ_eq_append_getElem hk, List.filter_append]
      have a1 : (l.take k).filter (fun x => !p x) = l.take k := by
        rw [List.filter_eq_self]
        intro x hx
        obtain ⟨j, hj, rfl⟩ := List.getElem_of_mem hx
        simp at hj
        rw [List.getElem_take]
        simp [k3 j (Nat.zero_le _) (by omega)]
      rw [a1]; simp [k2]
    simp (disch := omega) only [RK_seq, RK_region0, RK_block, RK_cond, RK_skip, RK_ret, RK_exit, RE_seq, RE_seq_exit, RE_seq_ret, RE_block, RE_block_ret, RE_block_exit, RE_nil, RO_mv, RO_len, RO_bin, RO_binb, RO_un, RO_pick, RO_ixs, RO_fld, RO_part, RO_ixa, RO_ixv, RO_eqa, RO_eqn, RO_mx2, RO_mn2, RO_build2, RO_lit0, RO_lit1, RO_lit2, RO_mkfn0, RO_mkfn1, RO_cap, RO_slice_l, RO_slice_h, RO_slice_lh, RO_box, RO_alloc, RO_store, RO_clear, RO_callv0, RO_callv1, RO_callv2, RO_append, RO_load, RO_callf0, RO_callf1, RO_callf2, RO_callf3, RO_callf4, RO_guard, RO_nil, put_fr, opd_t, opd_c, upd_eq', upd_ne, ne_eq, ↓OM_some, ↓OM_none, ↓CM_bool, ↓CB_true, ↓CB_false, ↓GM_t, ↓GM_f, ↓GM_tup, OM_some, OM_none, CM_bool, CB_true, CB_false, GM_t, GM_f, GM_tup, reduceIte, reduceCtorEq, Nat.reduceLT, Nat.reduceEqDiff, not_false_eq_true, not_true_eq_false, bin_add, bin_sub, bin_mul, bin_eql, bin_neq, bin_lss, bin_leq, bin_gtr, bin_geq, bin_seql, bin_sneq, binb_eql, binb_neq, un_not, un_neg, pick_t, pick_f, mn_2, mx_2, len_nils, len_fs, len_row, eqa_2, bld2_int, lit2_int, decide_true, decide_false, Bool.not_true, Bool.not_false, Bool.false_eq_true, List.length_map, List.getD_cons_zero, List.getD_cons_succ, List.getD_nil, c34_r0, c34_r1, c34_r2, c34_r4, hix, k1, e2, wrap64]
    refine del_loopI p l g cap i ver c hl hlc cx.wp ho.wp hw hi all hal hall hp _ (fun f' h' all' b1 b2 b3 b4 b5 b6 b7 => ?_) _ (by simp [upd']) (by simp [upd']) (k + 1) (by omega) (by simp [upd']) (by rw [hf]; simp [upd', Nat.min_eq_left (Nat.le_of_lt hk)]) (by rw [hf]; simp; omega) H (But.refl _ _) all hH rfl (by rw [hf, List.length_take, Nat.min_eq_left (Nat.le_of_lt hk), List.map_take, ← hall, List.take_take, Nat.min_eq_left (Nat.le_of_lt hk)]) (fun x hx => rfl) (fun x hx => ⟨_, get x hx, rfl⟩)
    obtain ⟨K, hK⟩ : ∃ K, (l.filter fun x => !p x).length = K := ⟨_, rfl⟩
    rw [hK] at b4 b5 b7
    have s1 := cut_row (z := 1) (i := i) (ver := ver) (n := l.length) (c := c) (k := K) (by omega) hlc (by omega)
    have s2 := cut_row0 (z := 1) (i := i) (ver := ver) (n := l.length) (c := c) (k := K) (by omega) hlc
    have s3 := clear_row (wp := cx.wp) (zero := [.int .i64 0]) (c := c - K) (k := K) (m := l.length - K) b2 ho.wp (by omega)
    simp only [List.length_cons, List.length_nil, Nat.zero_add, Nat.reduceAdd] at s3
    simp (disch := omega) only [RK_seq, RK_region0, RK_block, RK_cond, RK_skip, RK_ret, RK_exit, RE_seq, RE_seq_exit, RE_seq_ret, RE_block, RE_block_ret, RE_block_exit, RE_nil, RO_mv, RO_len, RO_bin, RO_binb, RO_un, RO_pick, RO_ixs, RO_fld, RO_part, RO_ixa, RO_ixv, RO_eqa, RO_eqn, RO_mx2, RO_mn2, RO_build2, RO_lit0, RO_lit1, RO_lit2, RO_mkfn0, RO_mkfn1, RO_cap, RO_slice_l, RO_slice_h, RO_slice_lh, RO_box, RO_alloc, RO_store, RO_clear, RO_callv0, RO_callv1, RO_callv2, RO_append, RO_load, RO_callf0, RO_callf1, RO_callf2, RO_callf3, RO_callf4, RO_guard, RO_nil, put_fr, opd_t, opd_c, upd_eq', upd_ne, ne_eq, ↓OM_some, ↓OM_none, ↓CM_bool, ↓CB_true, ↓CB_false, ↓GM_t, ↓GM_f, ↓GM_tup, OM_some, OM_none, CM_bool, CB_true, CB_false, GM_t, GM_f, GM_tup, reduceIte, reduceCtorEq, Nat.reduceLT, Nat.reduceEqDiff, not_false_eq_true, not_true_eq_false, bin_add, bin_sub, bin_mul, bin_eql, bin_neq, bin_lss, bin_leq, bin_gtr, bin_geq, bin_seql, bin_sneq, binb_eql, binb_neq, un_not, un_neg, pick_t, pick_f, mn_2, mx_2, len_nils, len_fs, len_row, eqa_2, bld2_int, lit2_int, decide_true, decide_false, Bool.not_true, Bool.not_false, Bool.false_eq_true, List.length_map, List.getD_cons_zero, List.getD_cons_succ, List.getD_nil, c34_r11, c34_r12, b6, b7, s1, s2, s3, Option.map_some, Option.map_none, FinQ_ret, res_t]
    refine ⟨_, leave0, ⟨⟨ver, c, _, by simp [hK], List.getElem?_set_self (List.getElem?_eq_some_iff.1 b2).1, ?_, ?_, by simp [hK]; omega⟩, ho.wp, lensI _⟩, b1.set _⟩
    · rw [List.length_map, hK, List.take_append_of_le_length (by simp; omega), List.take_append_of_le_length (by simp; omega), List.take_take, Nat.min_self]; exact b4
    · simp; omega

theorem del_emptyI {v : AV} (g : Nat) (cap : List AV) (hv : v = .nils ∨ v = .fs [] true) (hw : cx.wp ≤ H.length) (hp : ∀ x : Int, callF (T p23 p36) (ev (T p23 p36)) ⟨H.length, none⟩ g (valI x :: cap) H = some (.bool false, H)) :
    callF (T p23 p36) (ev (T p23 p36)) cx 34 [v, .fn g cap] H = some (v, H) := by
  have hs : Sl 1 H v (([] : List Int).map encI) := by
    rcases hv with rfl | rfl
    · exact .nils
    · exact .fs (by simp)
  have hix := ixf_specI (cx := ⟨cx.wp, none⟩) (fun _ => false) [] v g cap hs (by decide) hp hw
  have h1 : ixFI (fun _ => false) [] 0 = -1 := by rw [ixFI_none]; simp
  refine callF_code (a := a34) rfl hw (Nat.le_of_ble_eq_true rfl) ?_
  simp only [a34, c34, Ctx.enter]
  simp (disch := omega) only [RK_seq, RK_region0, RK_block, RK_cond, RK_skip, RK_ret, RK_exit, RE_seq, RE_seq_exit, RE_seq_ret, RE_block, RE_block_ret, RE_block_exit, RE_nil, RO_mv, RO_len, RO_bin, RO_binb, RO_un, RO_pick, RO_ixs, RO_fld, RO_part, RO_ixa, RO_ixv, RO_eqa, RO_eqn, RO_mx2, RO_mn2, RO_build2, RO_lit0, RO_lit1, RO_lit2, RO_mkfn0, RO_mkfn1, RO_cap, RO_slice_l, RO_slice_h, RO_slice_lh, RO_box, RO_alloc, RO_store, RO_clear, RO_callv0, RO_callv1, RO_callv2, RO_append, RO_load, RO_callf0, RO_callf1, RO_callf2, RO_callf3, RO_callf4, RO_guard, RO_nil, put_fr, opd_t, opd_c, upd_eq', upd_ne, ne_eq, ↓OM_some, ↓OM_none, ↓CM_bool, ↓CB_true, ↓CB_false, ↓GM_t, ↓GM_f, ↓GM_tup, OM_some, OM_none, CM_bool, CB_true, CB_false, GM_t, GM_f, GM_tup, reduceIte, reduceCtorEq, Nat.reduceLT, Nat.reduceEqDiff, not_false_eq_true, not_true_eq_false, bin_add, bin_sub, bin_mul, bin_eql, bin_neq, bin_lss, bin_leq, bin_gtr, bin_geq, bin_seql, bin_sneq, binb_eql, binb_neq, un_not, un_neg, pick_t, pick_f, mn_2, mx_2, len_nils, len_fs, len_row, eqa_2, bld2_int, lit2_int, decide_true, decide_false, Bool.not_true, Bool.not_false, Bool.false_eq_true, List.length_map, List.getD_cons_zero, List.getD_cons_succ, List.getD_nil, c34_r0, c34_r1, c34_r2, c34_r3, hix, h1, FinQ_ret, res_t]
  exact leave0
end Go.Proofs.Tryt17A
end

section
namespace Go.Proofs.Tryt17A
open Go Go.AM
set_option linter.unusedSimpArgs false
set_option linter.unusedVariables false

/-! ### Ranges over functions -/
section
variable {T : Tab} {cx : Ctx} {Q : Ex → St → Prop} {K : List Kont}

theorem RK_rangef {lid : Nat} {x : Opd} {fr : List AV} {ds : List Nat} {h : Heap} {g : Nat} {cap : List AV} (hx : opd fr x = .fn g cap) (hrd : cx.rd = none) :
    RK T cx Q (.rangef lid x) K ⟨fr, ds, h⟩ ↔ OM (callF T (ev T) { cx with rd := none } g (.yld (h.length + 1) :: cap) (h ++ [.defer] ++ [.loop lid fr .ready])) fun r => OM (endLoop (h.length + 1) r.2 ⟨fr, h.length :: ds, h⟩) fun e => RE T cx Q K e.1 e.2 := by
  unfold RK R
  rw [ev_eq]
  simp only [evalF, hx, hrd]
  cases callF T (ev T) { cx with rd := none } g (.yld (h.length + 1) :: cap) (h ++ [.defer] ++ [.loop lid fr .ready]) with
  | none => simp [OM]
  | some r => simp [OM]

/-- What comes of a round. -/
def RP (l : Nat) (P : Bool → Heap → Prop) (ex : Ex) (st : St) : Prop :=
  ∃ lid tmps s, st.h[l]? = some (.loop lid tmps s) ∧
    match ex with
    | .nrm => P true (st.h.set l (.loop lid tmps .ready))
    | .ret => P false (st.h.set l (.loop lid tmps (.done .ret)))
    | .exit id => P false (st.h.set l (.loop lid tmps (.done (.exit id))))

theorem roundF_spec {l lid : Nat} {tmps : List AV} {h : Heap} {ps : List Nat} {asg body : AC} {args : List AV} {P : Bool → Heap → Prop} (hl : h[l]? = some (.loop lid tmps .ready)) (hw : cx.wp ≤ l) (hT : T.loop lid = some (ps, asg, body)) (hlen : ps.length = args.length)
    (hr : R T { cx with rd := some l } asg ⟨(ps.zip args).foldl (fun fr (p, v) => fr.set p v) tmps, [], h⟩ fun ex st => ex = .nrm ∧ ∃ lid1 tmps1, st.h[l]? = some (.loop lid1 tmps1 .ready) ∧ R T { cx with rd := some l } body { st with h := st.h.set l (.loop lid1 tmps1 .busy) } (RP l P)) :
    ∃ t h', roundF T (ev T) cx l args h = some (.bool t, h') ∧ P t h' := by
  unfold roundF
  simp only [hl, if_pos hw, hT, if_pos hlen]
  obtain ⟨ex, st, e1, rfl, lid1, tmps1, e2, hb⟩ := R_some.1 hr
  obtain ⟨ex2, st2, e3, lid2, tmps2, s2, e4, hp⟩ := R_some.1 hb
  rw [e1]
  simp only [e2, e3, e4]
  cases ex2 with
  | nrm => exact ⟨_, _, rfl, hp⟩
  | ret => exact ⟨_, _, rfl, hp⟩
  | exit id => exact ⟨_, _, rfl, hp⟩
end

variable {p23 p36 : Nat → List AV → Heap → Option (AV × Heap)} {cx : Ctx} {H : Heap}

theorem cvM_yld' {T : Tab} {cx : Ctx} {h : Heap} {l : Nat} {args : List AV} : cvM T cx h (.yld l) args = roundF T (ev T) cx l args h := by simp [cvM]

theorem pt_new {h : Heap} {cs : List AV} : Pt (h ++ [.cells 0 [cs]]) (.ref h.length 0 0 0) cs := Pt.ref (es := [cs]) (rdRow_of (by simp)) (by simp)

/-! ### good -/
def gq (p : Int × Int) : Int × Int := (if p.2 < p.1 then p.2 else p.1, if p.1 < p.2 then p.2 else p.1)
def isg (q : Int × Int) : Bool := decide (0 ≤ q.1) && !decide (q.1 = q.2)
def goodL (l : List (Int × Int)) : List (Int × Int) := (l.map gq).filter isg

theorem f22_spec {v : AV} (hv : v.cells = some [v]) (hw : cx.wp ≤ H.length) : callF (T p23 p36) (ev (T p23 p36)) cx 22 [v] H = some (.fn 39 [.ref H.length 0 0 0], H ++ [.cells 0 [[v]]]) := by
  refine callF_code (a := a22) rfl hw (Nat.le_of_ble_eq_true rfl) ?_
  simp only [a22, c22]
  simp (disch := omega) only [RK_seq, RK_region0, RK_block, RK_cond, RK_skip, RK_ret, RK_exit, RE_seq, RE_seq_exit, RE_seq_ret, RE_block, RE_block_ret, RE_block_exit, RE_nil, RO_mv, RO_len, RO_bin, RO_binb, RO_un, RO_pick, RO_ixs, RO_fld, RO_part, RO_ixa, RO_ixv, RO_eqa, RO_eqn, RO_mx2, RO_mn2, RO_build2, RO_lit0, RO_lit1, RO_lit2, RO_mkfn0, RO_mkfn1, RO_cap, RO_slice_l, RO_slice_h, RO_slice_lh, RO_box, RO_alloc, RO_store, RO_clear, RO_callv0, RO_callv1, RO_callv2, RO_append, RO_load, RO_callf0, RO_callf1, RO_callf2, RO_callf3, RO_callf4, RO_guard, RO_nil, put_fr, opd_t, opd_c, upd_eq', upd_ne, ne_eq, ↓OM_some, ↓OM_none, ↓CM_bool, ↓CB_true, ↓CB_false, ↓GM_t, ↓GM_f, ↓GM_tup, OM_some, OM_none, CM_bool, CB_true, CB_false, GM_t, GM_f, GM_tup, reduceIte, reduceCtorEq, Nat.reduceLT, Nat.reduceEqDiff, not_false_eq_true, not_true_eq_false, bin_add, bin_sub, bin_mul, bin_eql, bin_neq, bin_lss, bin_leq, bin_gtr, bin_geq, bin_seql, bin_sneq, binb_eql, binb_neq, un_not, un_neg, pick_t, pick_f, mn_2, mx_2, len_nils, len_fs, len_row, eqa_2, bld2_int, lit2_int, decide_true, decide_false, Bool.not_true, Bool.not_false, Bool.false_eq_true, List.length_map, List.getD_cons_zero, List.getD_cons_succ, List.getD_nil, c22_r0, c22_r1, hv, FinQ_ret, res_t]
  exact leave0

theorem goodL_snoc (l : List (Int × Int)) (i : Nat) (h : i < l.length) : goodL (l.take (i + 1)) = goodL (l.take i) ++ if isg (gq l[i]) then [gq l[i]] else [] := by
  unfold goodL
  rw [List.take_succ_eq_append_getElem h, List.map_append, List.filter_append]
  cases hx : isg (gq l[i]) <;> simp [hx]

theorem goodL_pre (l : List (Int × Int)) (i : Nat) : goodL (l.take i) <+: goodL l := by
  unfold goodL
  exact ((List.take_prefix i l).map gq).filter isg

theorem f39_loop (L : Nat) (l : List (Int × Int)) (v0 : AV) (I : List (Int × Int) → Heap → Prop) (F : Heap → Prop) (wp : Nat) (hl : l.length < 4611686018427387904)
    (push : ∀ d h bx, I d h → I d (h ++ [bx])) (sl : ∀ d h, I d h → Sl 2 h v0 (l.map encP)) (wph : ∀ d h, I d h → wp ≤ h.length)
    (round : ∀ d q h, I d h → (d ++ [q]) <+: goodL l → ∃ t h', roundF (T p23 p36) (ev (T p23 p36)) ⟨wp, none⟩ L [valP q] h = some (.bool t, h') ∧ (t = true → I (d ++ [q]) h') ∧ (t = false → F h'))
    (Q : Ex → St → Prop) (q0 : ∀ f' h', I (goodL l) h' → Q (.exit 0) ⟨mkfr 39 f', [], h'⟩) (q1 : ∀ f' h', F h' → Q .ret ⟨mkfr 39 f', [], h'⟩)
    (f : Nat → AV) (h0 : f 0 = .yld L) (h5 : f 5 = v0) (h6 : f 6 = .int .i64 l.length) (i : Nat) (hi : i ≤ l.length) (h7 : f 7 = .int .i64 i) (h : Heap) (hI : I (goodL (l.take i)) h) :
    R (T p23 p36) ⟨wp, none⟩ c39_l0 ⟨mkfr 39 f, [], h⟩ Q := by
  rw [c39_l0, R_loop, ← c39_l0, c39_lb0]
  by_cases hlt : i < l.length
  · have e1 : ((i : Int) < (l.length : Int)) = True := by simp; omega
    have hat := atP (sl _ _ hI) hlt
    have hwh := wph _ _ hI
    have sn := goodL_snoc l i hlt
    have hpre := goodL_pre l (i + 1)
    generalize l[i] = x at hat sn
    obtain ⟨x1, x2⟩ := x
    have cx1 : (AV.agg [.int .i64 x1, .int .i64 x2]).cells = some [.int .i64 x1, .int .i64 x2] := rfl
    have s1 := st_new (wp := wp) (h := h) (n := 2) (old := [.int .i64 0, .int .i64 0]) hwh cx1 rfl rfl rfl
    have P1 : Pt (h ++ [.cells 0 [[.int .i64 x1, .int .i64 x2]]]) (.ref h.length 0 0 0) [.int .i64 x1, .int .i64 x2] := pt_new
    have cq : (AV.agg [.int .i64 (gq (x1, x2)).1, .int .i64 (gq (x1, x2)).2]).cells = some [.int .i64 (gq (x1, x2)).1, .int .i64 (gq (x1, x2)).2] := rfl
    have s2 := st_new (wp := wp) (h := h) (n := 2) (old := [.int .i64 x1, .int .i64 x2]) hwh cq rfl rfl rfl
    generalize hq : gq (x1, x2) = q at *
    have m1 : foldO1 mn2 [.int .i64 x1, .int .i64 x2] = some (.int .i64 q.1) := by rw [mn_2, ← hq]; rfl
    have m2 : foldO1 mx2 [.int .i64 x1, .int .i64 x2] = some (.int .i64 q.2) := by rw [mx_2, ← hq]; rfl
    have P2 : Pt (h ++ [.cells 0 [[.int .i64 q.1, .int .i64 q.2]]]) (.ref h.length 0 0 0) [.int .i64 q.1, .int .i64 q.2] := pt_new
    have hI1 := push _ _ (.cells 0 [[.int .i64 q.1, .int .i64 q.2]]) hI
    have a0 := P1.ixa0 (k := .i64) (len := 2) (z := 1) (by decide)
    have a1 := P1.ixa1 (k := .i64) (len := 2) (z := 1) (by decide) (by simp)
    have l0 : ldM _ false 1 (elf 0 (.ref h.length 0 0 0)) = _ := P1.ldf (off := 0) (by simp) (ag := false) (n := 1)
    have l1 : ldM _ false 1 (elf 1 (.ref h.length 0 0 0)) = _ := P1.ldf (off := 1) (by simp) (ag := false) (n := 1)
    have k0 : ldM _ false 1 (elf 0 (.ref h.length 0 0 0)) = _ := P2.ldf (off := 0) (by simp) (ag := false) (n := 1)
    have k1 : ldM _ false 1 (elf 1 (.ref h.length 0 0 0)) = _ := P2.ldf (off := 1) (by simp) (ag := false) (n := 1)
    have k2 := P2.ld true 2
    rw [partP0] at l0 k0
    rw [partP1] at l1 k1
    rw [part2] at k2
    have next : ∀ f' h', f' 0 = .yld L → f' 5 = v0 → f' 6 = .int .i64 l.length → f' 7 = .int .i64 ((i : Int) + 1) → I (goodL (l.take (i + 1))) h' → R (T p23 p36) ⟨wp, none⟩ c39_l0 ⟨mkfr 39 f', [], h'⟩ Q := fun f' h' g0 g5 g6 g7 gI =>
      f39_loop L l v0 I F wp hl push sl wph round Q q0 q1 f' g0 g5 g6 (i + 1) (by omega) (by rw [g7]; rfl) h' gI
    simp only [] at hat
    cases d1 : decide (0 ≤ q.1)
    · have : isg q = false := by simp [isg, d1]
      rw [this] at sn
      simp only [Bool.false_eq_true, if_false, List.append_nil] at sn
      simp (disch := omega) only [RK_seq, RK_region0, RK_block, RK_cond, RK_skip, RK_ret, RK_exit, RE_seq, RE_seq_exit, RE_seq_ret, RE_block, RE_block_ret, RE_block_exit, RE_nil, RO_mv, RO_len, RO_bin, RO_binb, RO_un, RO_pick, RO_ixs, RO_fld, RO_part, RO_ixa, RO_ixv, RO_eqa, RO_eqn, RO_mx2, RO_mn2, RO_build2, RO_lit0, RO_lit1, RO_lit2, RO_mkfn0, RO_mkfn1, RO_cap, RO_slice_l, RO_slice_h, RO_slice_lh, RO_box, RO_alloc, RO_store, RO_clear, RO_callv0, RO_callv1, RO_callv2, RO_append, RO_load, RO_callf0, RO_callf1, RO_callf2, RO_callf3, RO_callf4, RO_guard, RO_nil, put_fr, opd_t, opd_c, upd_eq', upd_ne, ne_eq, ↓OM_some, ↓OM_none, ↓CM_bool, ↓CB_true, ↓CB_false, ↓GM_t, ↓GM_f, ↓GM_tup, OM_some, OM_none, CM_bool, CB_true, CB_false, GM_t, GM_f, GM_tup, reduceIte, reduceCtorEq, Nat.reduceLT, Nat.reduceEqDiff, not_false_eq_true, not_true_eq_false, bin_add, bin_sub, bin_mul, bin_eql, bin_neq, bin_lss, bin_leq, bin_gtr, bin_geq, bin_seql, bin_sneq, binb_eql, binb_neq, un_not, un_neg, pick_t, pick_f, mn_2, mx_2, len_nils, len_fs, len_row, eqa_2, bld2_int, lit2_int, decide_true, decide_false, Bool.not_true, Bool.not_false, Bool.false_eq_true, List.length_map, List.getD_cons_zero, List.getD_cons_succ, List.getD_nil, c39_r1, c39_r2, c39_r3, c39_r4, c39_r5, h0, h5, h6, h7, e1, hat.ixs, hat.ldp, s1, a0, a1, l0, l1, m1, m2, s2, k0, k1, d1, wrap64]
      exact next _ _ (by simp [upd', h0]) (by simp [upd', h5]) (by simp [upd', h6]) (by simp [upd']) (by rw [sn]; exact hI1)
    · cases d2 : decide (q.1 = q.2)
      · have : isg q = true := by simp [isg, d1, d2]
        rw [this] at sn
        simp only [if_true] at sn
        rw [sn] at hpre
        obtain ⟨t, h', r1, r2, r3⟩ := round _ _ _ hI1 hpre
        simp only [valP, encP] at r1
        cases t
        · simp (disch := omega) only [RK_seq, RK_region0, RK_block, RK_cond, RK_skip, RK_ret, RK_exit, RE_seq, RE_seq_exit, RE_seq_ret, RE_block, RE_block_ret, RE_block_exit, RE_nil, RO_mv, RO_len, RO_bin, RO_binb, RO_un, RO_pick, RO_ixs, RO_fld, RO_part, RO_ixa, RO_ixv, RO_eqa, RO_eqn, RO_mx2, RO_mn2, RO_build2, RO_lit0, RO_lit1, RO_lit2, RO_mkfn0, RO_mkfn1, RO_cap, RO_slice_l, RO_slice_h, RO_slice_lh, RO_box, RO_alloc, RO_store, RO_clear, RO_callv0, RO_callv1, RO_callv2, RO_append, RO_load, RO_callf0, RO_callf1, RO_callf2, RO_callf3, RO_callf4, RO_guard, RO_nil, put_fr, opd_t, opd_c, upd_eq', upd_ne, ne_eq, ↓OM_some, ↓OM_none, ↓CM_bool, ↓CB_true, ↓CB_false, ↓GM_t, ↓GM_f, ↓GM_tup, OM_some, OM_none, CM_bool, CB_true, CB_false, GM_t, GM_f, GM_tup, reduceIte, reduceCtorEq, Nat.reduceLT, Nat.reduceEqDiff, not_false_eq_true, not_true_eq_false, bin_add, bin_sub, bin_mul, bin_eql, bin_neq, bin_lss, bin_leq, bin_gtr, bin_geq, bin_seql, bin_sneq, binb_eql, binb_neq, un_not, un_neg, pick_t, pick_f, mn_2, mx_2, len_nils, len_fs, len_row, eqa_2, bld2_int, lit2_int, decide_true, decide_false, Bool.not_true, Bool.not_false, Bool.false_eq_true, List.length_map, List.getD_cons_zero, List.getD_cons_succ, List.getD_nil, c39_r1, c39_r2, c39_r3, c39_r4, h0, h5, h6, h7, e1, hat.ixs, hat.ldp, s1, a0, a1, l0, l1, m1, m2, s2, k0, k1, k2, d1, d2, cvM_yld', r1]
          exact q1 _ _ (r3 rfl)
        · simp (disch := omega) only [RK_seq, RK_region0, RK_block, RK_cond, RK_skip, RK_ret, RK_exit, RE_seq, RE_seq_exit, RE_seq_ret, RE_block, RE_block_ret, RE_block_exit, RE_nil, RO_mv, RO_len, RO_bin, RO_binb, RO_un, RO_pick, RO_ixs, RO_fld, RO_part, RO_ixa, RO_ixv, RO_eqa, RO_eqn, RO_mx2, RO_mn2, RO_build2, RO_lit0, RO_lit1, RO_lit2, RO_mkfn0, RO_mkfn1, RO_cap, RO_slice_l, RO_slice_h, RO_slice_lh, RO_box, RO_alloc, RO_store, RO_clear, RO_callv0, RO_callv1, RO_callv2, RO_append, RO_load, RO_callf0, RO_callf1, RO_callf2, RO_callf3, RO_callf4, RO_guard, RO_nil, put_fr, opd_t, opd_c, upd_eq', upd_ne, ne_eq, ↓OM_some, ↓OM_none, ↓CM_bool, ↓CB_true, ↓CB_false, ↓GM_t, ↓GM_f, ↓GM_tup, OM_some, OM_none, CM_bool, CB_true, CB_false, GM_t, GM_f, GM_tup, reduceIte, reduceCtorEq, Nat.reduceLT, Nat.reduceEqDiff, not_false_eq_true, not_true_eq_false, bin_add, bin_sub, bin_mul, bin_eql, bin_neq, bin_lss, bin_leq, bin_gtr, bin_geq, bin_seql, bin_sneq, binb_eql, binb_neq, un_not, un_neg, pick_t, pick_f, mn_2, mx_2, len_nils, len_fs, len_row, eqa_2, bld2_int, lit2_int, decide_true, decide_false, Bool.not_true, Bool.not_false, Bool.false_eq_true, List.length_map, List.getD_cons_zero, List.getD_cons_succ, List.getD_nil, c39_r1, c39_r2, c39_r3, c39_r4, c39_r5, h0, h5, h6, h7, e1, hat.ixs, hat.ldp, s1, a0, a1, l0, l1, m1, m2, s2, k0, k1, k2, d1, d2, cvM_yld', r1, wrap64]
          exact next _ _ (by simp [upd', h0]) (by simp [upd', h5]) (by simp [upd', h6]) (by simp [upd']) (by rw [sn]; exact r2 rfl)
      · have : isg q = false := by simp [isg, d1, d2]
        rw [this] at sn
        simp only [Bool.false_eq_true, if_false, List.append_nil] at sn
        simp (disch := omega) only [RK_seq, RK_region0, RK_block, RK_cond, RK_skip, RK_ret, RK_exit, RE_seq, RE_seq_exit, RE_seq_ret, RE_block, RE_block_ret, RE_block_exit, RE_nil, RO_mv, RO_len, RO_bin, RO_binb, RO_un, RO_pick, RO_ixs, RO_fld, RO_part, RO_ixa, RO_ixv, RO_eqa, RO_eqn, RO_mx2, RO_mn2, RO_build2, RO_lit0, RO_lit1, RO_lit2, RO_mkfn0, RO_mkfn1, RO_cap, RO_slice_l, RO_slice_h, RO_slice_lh, RO_box, RO_alloc, RO_store, RO_clear, RO_callv0, RO_callv1, RO_callv2, RO_append, RO_load, RO_callf0, RO_callf1, RO_callf2, RO_callf3, RO_callf4, RO_guard, RO_nil, put_fr, opd_t, opd_c, upd_eq', upd_ne, ne_eq, ↓OM_some, ↓OM_none, ↓CM_bool, ↓CB_true, ↓CB_false, ↓GM_t, ↓GM_f, ↓GM_tup, OM_some, OM_none, CM_bool, CB_true, CB_false, GM_t, GM_f, GM_tup, reduceIte, reduceCtorEq, Nat.reduceLT, Nat.reduceEqDiff, not_false_eq_true, not_true_eq_false, bin_add, bin_sub, bin_mul, bin_eql, bin_neq, bin_lss, bin_leq, bin_gtr, bin_geq, bin_seql, bin_sneq, binb_eql, binb_neq, un_not, un_neg, pick_t, pick_f, mn_2, mx_2, len_nils, len_fs, len_row, eqa_2, bld2_int, lit2_int, decide_true, decide_false, Bool.not_true, Bool.not_false, Bool.false_eq_true, List.length_map, List.getD_cons_zero, List.getD_cons_succ, List.getD_nil, c39_r1, c39_r2, c39_r3, c39_r4, c39_r5, h0, h5, h6, h7, e1, hat.ixs, hat.ldp, s1, a0, a1, l0, l1, m1, m2, s2, k0, k1, d1, d2, wrap64]
        exact next _ _ (by simp [upd', h0]) (by simp [upd', h5]) (by simp [upd', h6]) (by simp [upd']) (by rw [sn]; exact hI1)
  · have : i = l.length := by omega
    subst this
    rw [List.take_length] at hI
    simp (disch := omega) only [RK_seq, RK_region0, RK_block, RK_cond, RK_skip, RK_ret, RK_exit, RE_seq, RE_seq_exit, RE_seq_ret, RE_block, RE_block_ret, RE_block_exit, RE_nil, RO_mv, RO_len, RO_bin, RO_binb, RO_un, RO_pick, RO_ixs, RO_fld, RO_part, RO_ixa, RO_ixv, RO_eqa, RO_eqn, RO_mx2, RO_mn2, RO_build2, RO_lit0, RO_lit1, RO_lit2, RO_mkfn0, RO_mkfn1, RO_cap, RO_slice_l, RO_slice_h, RO_slice_lh, RO_box, RO_alloc, RO_store, RO_clear, RO_callv0, RO_callv1, RO_callv2, RO_append, RO_load, RO_callf0, RO_callf1, RO_callf2, RO_callf3, RO_callf4, RO_guard, RO_nil, put_fr, opd_t, opd_c, upd_eq', upd_ne, ne_eq, ↓OM_some, ↓OM_none, ↓CM_bool, ↓CB_true, ↓CB_false, ↓GM_t, ↓GM_f, ↓GM_tup, OM_some, OM_none, CM_bool, CB_true, CB_false, GM_t, GM_f, GM_tup, reduceIte, reduceCtorEq, Nat.reduceLT, Nat.reduceEqDiff, not_false_eq_true, not_true_eq_false, bin_add, bin_sub, bin_mul, bin_eql, bin_neq, bin_lss, bin_leq, bin_gtr, bin_geq, bin_seql, bin_sneq, binb_eql, binb_neq, un_not, un_neg, pick_t, pick_f, mn_2, mx_2, len_nils, len_fs, len_row, eqa_2, bld2_int, lit2_int, decide_true, decide_false, Bool.not_true, Bool.not_false, Bool.false_eq_true, List.length_map, List.getD_cons_zero, List.getD_cons_succ, List.getD_nil, c39_r1, h6, h7, Int.lt_irrefl]
    exact q0 _ _ hI
termination_by l.length - i

theorem f39_spec (L b : Nat) (l : List (Int × Int)) (v0 : AV) (I : List (Int × Int) → Heap → Prop) (F : Heap → Prop) (wp : Nat) (hl : l.length < 4611686018427387904)
    (push : ∀ d h bx, I d h → I d (h ++ [bx])) (sl : ∀ d h, I d h → Sl 2 h v0 (l.map encP)) (wph : ∀ d h, I d h → wp ≤ h.length)
    (round : ∀ d q h, I d h → (d ++ [q]) <+: goodL l → ∃ t h', roundF (T p23 p36) (ev (T p23 p36)) ⟨wp, none⟩ L [valP q] h = some (.bool t, h') ∧ (t = true → I (d ++ [q]) h') ∧ (t = false → F h'))
    (fin : ∀ h, I (goodL l) h → F h) (hI : I [] H) (hv : ldM H false 1 (.ref b 0 0 0) = some v0) :
    ∃ r, callF (T p23 p36) (ev (T p23 p36)) ⟨wp, none⟩ 39 [.yld L, .ref b 0 0 0] H = some r ∧ F r.2 := by
  refine callF_codeE (a := a39) rfl (wph _ _ hI) (Nat.le_of_ble_eq_true rfl) ?_
  simp only [a39, c39, Ctx.enter]
  have hlen := (sl _ _ hI).len
  simp (disch := omega) only [RK_seq, RK_region0, RK_block, RK_cond, RK_skip, RK_ret, RK_exit, RE_seq, RE_seq_exit, RE_seq_ret, RE_block, RE_block_ret, RE_block_exit, RE_nil, RO_mv, RO_len, RO_bin, RO_binb, RO_un, RO_pick, RO_ixs, RO_fld, RO_part, RO_ixa, RO_ixv, RO_eqa, RO_eqn, RO_mx2, RO_mn2, RO_build2, RO_lit0, RO_lit1, RO_lit2, RO_mkfn0, RO_mkfn1, RO_cap, RO_slice_l, RO_slice_h, RO_slice_lh, RO_box, RO_alloc, RO_store, RO_clear, RO_callv0, RO_callv1, RO_callv2, RO_append, RO_load, RO_callf0, RO_callf1, RO_callf2, RO_callf3, RO_callf4, RO_guard, RO_nil, put_fr, opd_t, opd_c, upd_eq', upd_ne, ne_eq, ↓OM_some, ↓OM_none, ↓CM_bool, ↓CB_true, ↓CB_false, ↓GM_t, ↓GM_f, ↓GM_tup, OM_some, OM_none, CM_bool, CB_true, CB_false, GM_t, GM_f, GM_tup, reduceIte, reduceCtorEq, Nat.reduceLT, Nat.reduceEqDiff, not_false_eq_true, not_true_eq_false, bin_add, bin_sub, bin_mul, bin_eql, bin_neq, bin_lss, bin_leq, bin_gtr, bin_geq, bin_seql, bin_sneq, binb_eql, binb_neq, un_not, un_neg, pick_t, pick_f, mn_2, mx_2, len_nils, len_fs, len_row, eqa_2, bld2_int, lit2_int, decide_true, decide_false, Bool.not_true, Bool.not_false, Bool.false_eq_true, List.length_map, List.getD_cons_zero, List.getD_cons_succ, List.getD_nil, c39_r0, hv, hlen]
  refine f39_loop L l v0 I F wp hl push sl wph round _ (fun f' h' hi => ?_) (fun f' h' hf => ?_) _ (by simp [upd']) (by simp [upd']) (by simp [upd']) 0 (Nat.zero_le _) (by simp [upd']) H (by simpa [goodL] using hI)
  · simp (disch := omega) only [RK_seq, RK_region0, RK_block, RK_cond, RK_skip, RK_ret, RK_exit, RE_seq, RE_seq_exit, RE_seq_ret, RE_block, RE_block_ret, RE_block_exit, RE_nil, RO_mv, RO_len, RO_bin, RO_binb, RO_un, RO_pick, RO_ixs, RO_fld, RO_part, RO_ixa, RO_ixv, RO_eqa, RO_eqn, RO_mx2, RO_mn2, RO_build2, RO_lit0, RO_lit1, RO_lit2, RO_mkfn0, RO_mkfn1, RO_cap, RO_slice_l, RO_slice_h, RO_slice_lh, RO_box, RO_alloc, RO_store, RO_clear, RO_callv0, RO_callv1, RO_callv2, RO_append, RO_load, RO_callf0, RO_callf1, RO_callf2, RO_callf3, RO_callf4, RO_guard, RO_nil, put_fr, opd_t, opd_c, upd_eq', upd_ne, ne_eq, ↓OM_some, ↓OM_none, ↓CM_bool, ↓CB_true, ↓CB_false, ↓GM_t, ↓GM_f, ↓GM_tup, OM_some, OM_none, CM_bool, CB_true, CB_false, GM_t, GM_f, GM_tup, reduceIte, reduceCtorEq, Nat.reduceLT, Nat.reduceEqDiff, not_false_eq_true, not_true_eq_false, bin_add, bin_sub, bin_mul, bin_eql, bin_neq, bin_lss, bin_leq, bin_gtr, bin_geq, bin_seql, bin_sneq, binb_eql, binb_neq, un_not, un_neg, pick_t, pick_f, mn_2, mx_2, len_nils, len_fs, len_row, eqa_2, bld2_int, lit2_int, decide_true, decide_false, Bool.not_true, Bool.not_false, Bool.false_eq_true, List.length_map, List.getD_cons_zero, List.getD_cons_succ, List.getD_nil, FinQ_nrm, res_none]
    exact ⟨_, leave0, fin _ hi⟩
  · simp (disch := omega) only [RK_seq, RK_region0, RK_block, RK_cond, RK_skip, RK_ret, RK_exit, RE_seq, RE_seq_exit, RE_seq_ret, RE_block, RE_block_ret, RE_block_exit, RE_nil, RO_mv, RO_len, RO_bin, RO_binb, RO_un, RO_pick, RO_ixs, RO_fld, RO_part, RO_ixa, RO_ixv, RO_eqa, RO_eqn, RO_mx2, RO_mn2, RO_build2, RO_lit0, RO_lit1, RO_lit2, RO_mkfn0, RO_mkfn1, RO_cap, RO_slice_l, RO_slice_h, RO_slice_lh, RO_box, RO_alloc, RO_store, RO_clear, RO_callv0, RO_callv1, RO_callv2, RO_append, RO_load, RO_callf0, RO_callf1, RO_callf2, RO_callf3, RO_callf4, RO_guard, RO_nil, put_fr, opd_t, opd_c, upd_eq', upd_ne, ne_eq, ↓OM_some, ↓OM_none, ↓CM_bool, ↓CB_true, ↓CB_false, ↓GM_t, ↓GM_f, ↓GM_tup, OM_some, OM_none, CM_bool, CB_true, CB_false, GM_t, GM_f, GM_tup, reduceIte, reduceCtorEq, Nat.reduceLT, Nat.reduceEqDiff, not_false_eq_true, not_true_eq_false, bin_add, bin_sub, bin_mul, bin_eql, bin_neq, bin_lss, bin_leq, bin_gtr, bin_geq, bin_seql, bin_sneq, binb_eql, binb_neq, un_not, un_neg, pick_t, pick_f, mn_2, mx_2, len_nils, len_fs, len_row, eqa_2, bld2_int, lit2_int, decide_true, decide_false, Bool.not_true, Bool.not_false, Bool.false_eq_true, List.length_map, List.getD_cons_zero, List.getD_cons_succ, List.getD_nil, FinQ_ret, res_none]
    exact ⟨_, leave0, hf⟩
end Go.Proofs.Tryt17A
end

section
namespace Go.Proofs.Tryt17A
open Go Go.AM
set_option linter.unusedSimpArgs false
set_option linter.unusedVariables false
variable {p23 p36 : Nat → List AV → Heap → Option (AV × Heap)} {cx : Ctx} {H : Heap}

theorem ld_cell {h : Heap} {i : Nat} {x : AV} (h1 : h[i]? = some (.cells 0 [[x]])) : ldM h false 1 (.ref i 0 0 0) = some x := ld_row h1 (j := 0) (cs := [x]) rfl (by simp [partOf])
theorem st_cell {wp : Nat} {h : Heap} {i : Nat} {x y : AV} (h1 : h[i]? = some (.cells 0 [[x]])) (hw : wp ≤ i) (hy : y.cells = some [y]) (ho : y.one = true) : stM wp h 1 (.ref i 0 0 0) y = some (h.set i (.cells 0 [[y]])) := by
  exact (st_row (n := 1) (j := 0) (all := [[x]]) (old := [x]) (cs := [y]) h1 (by simp) hw hy rfl (by simp [ho]) rfl).trans (by simp)

/-- How the collecting stands. -/
structure Col (n : Nat) (H : Heap) (f0 : Nat → AV) (d : List (Int × Int)) (h : Heap) : Prop where
  len : n + 3 ≤ h.length
  old : ∀ k, k < n → h[k]? = H[k]?
  def_ : h[n + 1]? = some .defer
  loop : h[n + 2]? = some (.loop 38007 (mkfr 13 f0) .ready)
  sv : ∃ sv, h[n]? = some (.cells 0 [[sv]]) ∧ ((d = [] ∧ sv = .nils) ∨ (d ≠ [] ∧ ∃ j, n + 3 ≤ j ∧ Ow 2 n h sv (d.map encP) j))

theorem Col.push {n : Nat} {f0 : Nat → AV} {d : List (Int × Int)} {h : Heap} (hc : Col n H f0 d h) (bx : Box) : Col n H f0 d (h ++ [bx]) where
  len := by have := hc.len; simp; omega
  old k hk := by rw [List.getElem?_append_left (by have := hc.len; omega)]; exact hc.old k hk
  def_ := by rw [List.getElem?_append_left (by have := hc.len; omega)]; exact hc.def_
  loop := by rw [List.getElem?_append_left (by have := hc.len; omega)]; exact hc.loop
  sv := by
    obtain ⟨sv, h1, h2⟩ := hc.sv
    refine ⟨sv, by rw [List.getElem?_append_left (by have := hc.len; omega)]; exact h1, h2.imp id ?_⟩
    rintro ⟨h3, j, h4, h5⟩
    exact ⟨h3, j, h4, h5.of (List.getElem?_append_left h5.lt)⟩

/-- The frame behind the range's variable. -/
theorem f38_round (n : Nat) (f0 : Nat → AV) (h2 : f0 2 = .ref n 0 0 0) (d : List (Int × Int)) (q : Int × Int) (hd : (d.length + 1) * 16 ≤ maxLn) (h : Heap) (hc : Col n H f0 d h) :
    ∃ t h', roundF (T p23 p36) (ev (T p23 p36)) ⟨n, none⟩ (n + 2) [valP q] h = some (.bool t, h') ∧ (t = true → Col n H f0 (d ++ [q]) h') ∧ (t = false → Col n H f0 (goodL []) h' ∧ False) := by
  have hlen := hc.len
  have key : ∃ t h', roundF (T p23 p36) (ev (T p23 p36)) ⟨n, none⟩ (n + 2) [valP q] h = some (.bool t, h') ∧ (t = true ∧ Col n H f0 (d ++ [q]) h') := by
    refine roundF_spec (ps := [7]) (asg := c38_a0) (body := c38_b0) hc.loop (by show n ≤ n + 2; omega) rfl rfl ?_
    rw [R_RK]
    simp only [c38_a0, List.zip_cons_cons, List.zip_nil_right, List.foldl_cons, List.foldl_nil]
    have s1 := st_new (wp := n) (h := h) (n := 2) (old := [.int .i64 0, .int .i64 0]) (x := valP q) (cs := encP q) (by omega) rfl rfl rfl rfl
    simp (disch := omega) only [RK_seq, RK_region0, RK_block, RK_cond, RK_skip, RK_ret, RK_exit, RE_seq, RE_seq_exit, RE_seq_ret, RE_block, RE_block_ret, RE_block_exit, RE_nil, RO_mv, RO_len, RO_bin, RO_binb, RO_un, RO_pick, RO_ixs, RO_fld, RO_part, RO_ixa, RO_ixv, RO_eqa, RO_eqn, RO_mx2, RO_mn2, RO_build2, RO_lit0, RO_lit1, RO_lit2, RO_mkfn0, RO_mkfn1, RO_cap, RO_slice_l, RO_slice_h, RO_slice_lh, RO_box, RO_alloc, RO_store, RO_clear, RO_callv0, RO_callv1, RO_callv2, RO_append, RO_load, RO_callf0, RO_callf1, RO_callf2, RO_callf3, RO_callf4, RO_guard, RO_nil, put_fr, opd_t, opd_c, upd_eq', upd_ne, ne_eq, ↓OM_some, ↓OM_none, ↓CM_bool, ↓CB_true, ↓CB_false, ↓GM_t, ↓GM_f, ↓GM_tup, OM_some, OM_none, CM_bool, CB_true, CB_false, GM_t, GM_f, GM_tup, reduceIte, reduceCtorEq, Nat.reduceLT, Nat.reduceEqDiff, not_false_eq_true, not_true_eq_false, bin_add, bin_sub, bin_mul, bin_eql, bin_neq, bin_lss, bin_leq, bin_gtr, bin_geq, bin_seql, bin_sneq, binb_eql, binb_neq, un_not, un_neg, pick_t, pick_f, mn_2, mx_2, len_nils, len_fs, len_row, eqa_2, bld2_int, lit2_int, decide_true, decide_false, Bool.not_true, Bool.not_false, Bool.false_eq_true, List.length_map, List.getD_cons_zero, List.getD_cons_succ, List.getD_nil, c38_a0_r0, s1]
    have hc1 := hc.push (.cells 0 [encP q])
    refine ⟨trivial, 38007, _, hc1.loop, ?_⟩
    generalize hh1 : h ++ [.cells 0 [encP q]] = h1 at *
    have hl1 : h1.length = h.length + 1 := by rw [← hh1]; simp
    have hbx : h1[h.length]? = some (.cells 0 [encP q]) := by rw [← hh1]; simp
    rw [R_RK]
    simp only [c38_b0]
    obtain ⟨sv, g1, g2⟩ := hc1.sv
    generalize hh2 : h1.set (n + 2) (.loop 38007 (mkfr 13 f0) .busy) = h2' at *
    have e0 : ∀ k, k ≠ n + 2 → h2'[k]? = h1[k]? := fun k hk => by rw [← hh2, List.getElem?_set_ne (Ne.symm hk)]
    have hl2 : h2'.length = h1.length := by rw [← hh2]; simp
    have eL : h2'[n + 2]? = some (.loop 38007 (mkfr 13 f0) .busy) := by rw [← hh2, List.getElem?_set_self (by omega)]
    have l1 := ld_cell (h := h2') (i := n) (x := sv) (by rw [e0 n (by omega)]; exact g1)
    have l2 : ldM h2' true 2 (.ref h.length 0 0 0) = some (valP q) := ld_row (all := [encP q]) (by rw [e0 _ (by omega)]; exact hbx) (j := 0) (cs := encP q) rfl partP
    have li : lit1M [AV.int .i64 0, .int .i64 0] (valP q) = some (.fs [encP q] true) := lit1_agg rfl
    have hx : Sl 2 h2' (.fs [encP q] true) [encP q] := .fs (by simp [encP])
    have fin : ∀ (v : AV) (h3 : Heap) (f' : Nat → AV), v.cells = some [v] → v.one = true → n + 3 ≤ h3.length → (∀ k, k < n + 3 → h3[k]? = h2'[k]?) → (∃ j, n + 3 ≤ j ∧ Ow 2 n h3 v ((d ++ [q]).map encP) j) →
        ∃ h4, stM n h3 1 (.ref n 0 0 0) v = some h4 ∧ RP (n + 2) (fun t h' => t = true ∧ Col n H f0 (d ++ [q]) h') .nrm ⟨mkfr 13 f', [], h4⟩ := by
      intro v h3 f' c1 c2 c3 c4 ⟨j, c5, c6⟩
      have hn3 : h3[n]? = some (.cells 0 [[sv]]) := by rw [c4 n (by omega), e0 n (by omega)]; exact g1
      refine ⟨_, st_cell hn3 (Nat.le_refl _) c1 c2, 38007, mkfr 13 f0, .busy, ?_, rfl, ?_⟩
      · simp only []
        rw [List.getElem?_set_ne (by omega), c4 _ (by omega)]; exact eL
      · refine ⟨by simp; omega, fun k hk => ?_, ?_, ?_, v, ?_, .inr ⟨by simp, j, c5, ?_⟩⟩
        · simp only []
          rw [List.getElem?_set_ne (by omega), List.getElem?_set_ne (by omega), c4 _ (by omega), e0 _ (by omega)]; exact hc1.old k hk
        · simp only []
          rw [List.getElem?_set_ne (by omega), List.getElem?_set_ne (by omega), c4 _ (by omega), e0 _ (by omega)]; exact hc1.def_
        · simp only []
          rw [List.getElem?_set_self (by simp; omega)]
        · simp only []
          rw [List.getElem?_set_ne (by omega), List.getElem?_set_self (by omega)]
        · refine c6.of ?_
          simp only []
          rw [List.getElem?_set_ne (by omega), List.getElem?_set_ne (by omega)]
    rcases g2 with ⟨rfl, rfl⟩ | ⟨hne, j, j1, j2⟩
    · have ap := ap_new (wp := n) (bytes := 16) (s := .nils) (.inl rfl) hx (by unfold maxLn; simp) (by unfold maxLn; simp)
      simp only [List.cons_ne_nil, reduceIte, List.length_singleton, reduceCtorEq] at ap
      obtain ⟨h4, st4, rp⟩ := fin (.row h2'.length 0 0 1 1 2) (h2' ++ [.cells 0 [encP q]]) (upd' (upd' (upd' (upd' (upd' (upd' f0 7 (valP q)) 5 (AV.ref h.length 0 0 0)) 8 AV.nils) 9 (valP q)) 10 (AV.fs [encP q] true)) 11 (.row h2'.length 0 0 1 1 2)) rfl rfl (by simp; omega) (fun k hk => List.getElem?_append_left (by omega)) ⟨h2'.length, by omega, by simpa using Own3.ow (z := 2) (wp := n) (H := h2') (es := [encP q]) (by omega) (by simp [encP])⟩
      simp (disch := omega) only [RK_seq, RK_region0, RK_block, RK_cond, RK_skip, RK_ret, RK_exit, RE_seq, RE_seq_exit, RE_seq_ret, RE_block, RE_block_ret, RE_block_exit, RE_nil, RO_mv, RO_len, RO_bin, RO_binb, RO_un, RO_pick, RO_ixs, RO_fld, RO_part, RO_ixa, RO_ixv, RO_eqa, RO_eqn, RO_mx2, RO_mn2, RO_build2, RO_lit0, RO_lit1, RO_lit2, RO_mkfn0, RO_mkfn1, RO_cap, RO_slice_l, RO_slice_h, RO_slice_lh, RO_box, RO_alloc, RO_store, RO_clear, RO_callv0, RO_callv1, RO_callv2, RO_append, RO_load, RO_callf0, RO_callf1, RO_callf2, RO_callf3, RO_callf4, RO_guard, RO_nil, put_fr, opd_t, opd_c, upd_eq', upd_ne, ne_eq, ↓OM_some, ↓OM_none, ↓CM_bool, ↓CB_true, ↓CB_false, ↓GM_t, ↓GM_f, ↓GM_tup, OM_some, OM_none, CM_bool, CB_true, CB_false, GM_t, GM_f, GM_tup, reduceIte, reduceCtorEq, Nat.reduceLT, Nat.reduceEqDiff, not_false_eq_true, not_true_eq_false, bin_add, bin_sub, bin_mul, bin_eql, bin_neq, bin_lss, bin_leq, bin_gtr, bin_geq, bin_seql, bin_sneq, binb_eql, binb_neq, un_not, un_neg, pick_t, pick_f, mn_2, mx_2, len_nils, len_fs, len_row, eqa_2, bld2_int, lit2_int, decide_true, decide_false, Bool.not_true, Bool.not_false, Bool.false_eq_true, List.length_map, List.getD_cons_zero, List.getD_cons_succ, List.getD_nil, c38_b0_r0, h2, l1, l2, li, ap, st4]
      exact rp
    · have j3 : Ow 2 n h2' sv (d.map encP) j := j2.of (e0 j (by omega))
      obtain ⟨v, bx, ap, ow⟩ := ap_own (bytes := 16) j3 hx (by simp [encP]) (by simpa using hd) (by simp; unfold maxLn at *; omega)
      obtain ⟨ver, c, all, hv, _⟩ := ow.row
      obtain ⟨h4, st4, rp⟩ := fin v (h2'.set j bx) (upd' (upd' (upd' (upd' (upd' (upd' f0 7 (valP q)) 5 (AV.ref h.length 0 0 0)) 8 sv) 9 (valP q)) 10 (AV.fs [encP q] true)) 11 v) (by rw [hv]; rfl) (by rw [hv]; rfl) (by simp; omega) (fun k hk => by rw [List.getElem?_set_ne (by omega)]) ⟨j, j1, by simpa using ow⟩
      simp (disch := omega) only [RK_seq, RK_region0, RK_block, RK_cond, RK_skip, RK_ret, RK_exit, RE_seq, RE_seq_exit, RE_seq_ret, RE_block, RE_block_ret, RE_block_exit, RE_nil, RO_mv, RO_len, RO_bin, RO_binb, RO_un, RO_pick, RO_ixs, RO_fld, RO_part, RO_ixa, RO_ixv, RO_eqa, RO_eqn, RO_mx2, RO_mn2, RO_build2, RO_lit0, RO_lit1, RO_lit2, RO_mkfn0, RO_mkfn1, RO_cap, RO_slice_l, RO_slice_h, RO_slice_lh, RO_box, RO_alloc, RO_store, RO_clear, RO_callv0, RO_callv1, RO_callv2, RO_append, RO_load, RO_callf0, RO_callf1, RO_callf2, RO_callf3, RO_callf4, RO_guard, RO_nil, put_fr, opd_t, opd_c, upd_eq', upd_ne, ne_eq, ↓OM_some, ↓OM_none, ↓CM_bool, ↓CB_true, ↓CB_false, ↓GM_t, ↓GM_f, ↓GM_tup, OM_some, OM_none, CM_bool, CB_true, CB_false, GM_t, GM_f, GM_tup, reduceIte, reduceCtorEq, Nat.reduceLT, Nat.reduceEqDiff, not_false_eq_true, not_true_eq_false, bin_add, bin_sub, bin_mul, bin_eql, bin_neq, bin_lss, bin_leq, bin_gtr, bin_geq, bin_seql, bin_sneq, binb_eql, binb_neq, un_not, un_neg, pick_t, pick_f, mn_2, mx_2, len_nils, len_fs, len_row, eqa_2, bld2_int, lit2_int, decide_true, decide_false, Bool.not_true, Bool.not_false, Bool.false_eq_true, List.length_map, List.getD_cons_zero, List.getD_cons_succ, List.getD_nil, c38_b0_r0, h2, l1, l2, li, ap, st4]
      exact rp
  obtain ⟨t, h', h1, h3, h4⟩ := key
  exact ⟨t, h', h1, fun _ => h4, fun e => by rw [h3] at e; cases e⟩

theorem endLoop_ready {l lid : Nat} {tmps : List AV} {h : Heap} {st : St} (hl : h[l]? = some (.loop lid tmps .ready)) : endLoop l h st = some (.nrm, { st with h := h.set l .dead }) := by simp [endLoop, hl]

/-- The rows that are collected. -/
def mk3 (z : Nat) (H : Heap) (es : List (List AV)) : AV × Heap := if es = [] then (.nils, H) else (.row H.length 0 0 es.length es.length z, H ++ [.cells 0 es])

theorem goodL_len (l : List (Int × Int)) : (goodL l).length ≤ l.length := by
  unfold goodL
  have := List.length_filter_le isg (l.map gq)
  simpa using this

theorem f38_spec {l : List (Int × Int)} {b : Nat} {v0 : AV} (hb : H[b]? = some (.cells 0 [[v0]])) (hsl : ∀ h : Heap, (∀ k, k < H.length → h[k]? = H[k]?) → Sl 2 h v0 (l.map encP)) (hl : (l.length + 1) * 16 ≤ maxLn) (hw : cx.wp ≤ H.length) :
    callF (T p23 p36) (ev (T p23 p36)) cx 38 [.nils, .fn 39 [.ref b 0 0 0]] H = some (mk3 2 H ((goodL l).map encP)) := by
  refine callF_code (a := a38) rfl hw (Nat.le_of_ble_eq_true rfl) ?_
  have hbl := (List.getElem?_eq_some_iff.1 hb).1
  have hcn : AV.nils.cells = some [.nils] := rfl
  simp only [a38, c38, Ctx.enter]
  simp (disch := omega) only [RK_seq, RK_region0, RK_block, RK_cond, RK_skip, RK_ret, RK_exit, RE_seq, RE_seq_exit, RE_seq_ret, RE_block, RE_block_ret, RE_block_exit, RE_nil, RO_mv, RO_len, RO_bin, RO_binb, RO_un, RO_pick, RO_ixs, RO_fld, RO_part, RO_ixa, RO_ixv, RO_eqa, RO_eqn, RO_mx2, RO_mn2, RO_build2, RO_lit0, RO_lit1, RO_lit2, RO_mkfn0, RO_mkfn1, RO_cap, RO_slice_l, RO_slice_h, RO_slice_lh, RO_box, RO_alloc, RO_store, RO_clear, RO_callv0, RO_callv1, RO_callv2, RO_append, RO_load, RO_callf0, RO_callf1, RO_callf2, RO_callf3, RO_callf4, RO_guard, RO_nil, put_fr, opd_t, opd_c, upd_eq', upd_ne, ne_eq, ↓OM_some, ↓OM_none, ↓CM_bool, ↓CB_true, ↓CB_false, ↓GM_t, ↓GM_f, ↓GM_tup, OM_some, OM_none, CM_bool, CB_true, CB_false, GM_t, GM_f, GM_tup, reduceIte, reduceCtorEq, Nat.reduceLT, Nat.reduceEqDiff, not_false_eq_true, not_true_eq_false, bin_add, bin_sub, bin_mul, bin_eql, bin_neq, bin_lss, bin_leq, bin_gtr, bin_geq, bin_seql, bin_sneq, binb_eql, binb_neq, un_not, un_neg, pick_t, pick_f, mn_2, mx_2, len_nils, len_fs, len_row, eqa_2, bld2_int, lit2_int, decide_true, decide_false, Bool.not_true, Bool.not_false, Bool.false_eq_true, List.length_map, List.getD_cons_zero, List.getD_cons_succ, List.getD_nil, c38_r0, c38_r1, hcn]
  generalize hf0 : (upd' (upd' (upd' (fun n => [AV.nils, AV.fn 39 [AV.ref b 0 0 0]].getD n AV.any) 2 (AV.ref H.length 0 0 0)) 4 AV.nils) 6 (AV.fn 39 [AV.ref b 0 0 0])) = f0
  have g2 : f0 2 = .ref H.length 0 0 0 := by rw [← hf0]; simp [upd']
  have g6 : opd (mkfr 13 f0) (.t 6) = .fn 39 [.ref b 0 0 0] := by rw [opd_t (by decide), ← hf0]; simp [upd']
  rw [RK_rangef g6 rfl]
  have hlen1 : (H ++ [Box.cells 0 [[AV.nils]]]).length = H.length + 1 := by simp
  have hstart : Col H.length H f0 [] (H ++ [.cells 0 [[.nils]]] ++ [.defer] ++ [.loop 38007 (mkfr 13 f0) .ready]) := by
    refine ⟨by simp, fun k hk => ?_, ?_, ?_, .nils, ?_, .inl ⟨rfl, rfl⟩⟩
    · simp only [List.append_assoc]
      rw [List.getElem?_append_left hk]
    all_goals simp [List.getElem?_append]
  obtain ⟨r, r1, r2⟩ := f39_spec (p23 := p23) (p36 := p36) (H.length + 2) b l v0 (Col H.length H f0) (Col H.length H f0 (goodL l)) H.length (by unfold maxLn at hl; omega) (fun d h bx hc => hc.push bx) (fun d h hc => hsl h hc.old) (fun d h hc => by have := hc.len; omega)
    (fun d q h hc hp => by
      have hdl : d.length + 1 ≤ l.length := by
        have := hp.length_le
        have := goodL_len l
        simp at *
        omega
      obtain ⟨t, h', q1, q2, q3⟩ := f38_round (p23 := p23) (p36 := p36) H.length f0 g2 d q (by have := Nat.mul_le_mul_right 16 hdl; omega) h hc
      refine ⟨t, h', q1, q2, fun e => ((q3 e).2).elim⟩)
    (fun h hc => hc) hstart (by
      refine ld_cell ?_
      simp only [List.append_assoc]
      rw [List.getElem?_append_left hbl]; exact hb)
  rw [hlen1, r1]
  have hl3 := r2.len
  simp (disch := omega) only [RK_seq, RK_region0, RK_block, RK_cond, RK_skip, RK_ret, RK_exit, RE_seq, RE_seq_exit, RE_seq_ret, RE_block, RE_block_ret, RE_block_exit, RE_nil, RO_mv, RO_len, RO_bin, RO_binb, RO_un, RO_pick, RO_ixs, RO_fld, RO_part, RO_ixa, RO_ixv, RO_eqa, RO_eqn, RO_mx2, RO_mn2, RO_build2, RO_lit0, RO_lit1, RO_lit2, RO_mkfn0, RO_mkfn1, RO_cap, RO_slice_l, RO_slice_h, RO_slice_lh, RO_box, RO_alloc, RO_store, RO_clear, RO_callv0, RO_callv1, RO_callv2, RO_append, RO_load, RO_callf0, RO_callf1, RO_callf2, RO_callf3, RO_callf4, RO_guard, RO_nil, put_fr, opd_t, opd_c, upd_eq', upd_ne, ne_eq, ↓OM_some, ↓OM_none, ↓CM_bool, ↓CB_true, ↓CB_false, ↓GM_t, ↓GM_f, ↓GM_tup, OM_some, OM_none, CM_bool, CB_true, CB_false, GM_t, GM_f, GM_tup, reduceIte, reduceCtorEq, Nat.reduceLT, Nat.reduceEqDiff, not_false_eq_true, not_true_eq_false, bin_add, bin_sub, bin_mul, bin_eql, bin_neq, bin_lss, bin_leq, bin_gtr, bin_geq, bin_seql, bin_sneq, binb_eql, binb_neq, un_not, un_neg, pick_t, pick_f, mn_2, mx_2, len_nils, len_fs, len_row, eqa_2, bld2_int, lit2_int, decide_true, decide_false, Bool.not_true, Bool.not_false, Bool.false_eq_true, List.length_map, List.getD_cons_zero, List.getD_cons_succ, List.getD_nil, endLoop_ready r2.loop]
  obtain ⟨sv, s1, s2⟩ := r2.sv
  have l1 : ldM (r.2.set (H.length + 1 + 1) .dead) false 1 (.ref H.length 0 0 0) = some sv := ld_cell (by rw [List.getElem?_set_ne (by omega)]; exact s1)
  have hk : killAll H.length (r.2.set (H.length + 1 + 1) .dead) [H.length + 1] = some ((r.2.set (H.length + 1 + 1) .dead).set (H.length + 1) .dead) := by
    simp only [killAll]
    rw [if_pos (by omega), List.getElem?_set_ne (by omega), r2.def_]
  simp (disch := omega) only [RK_seq, RK_region0, RK_block, RK_cond, RK_skip, RK_ret, RK_exit, RE_seq, RE_seq_exit, RE_seq_ret, RE_block, RE_block_ret, RE_block_exit, RE_nil, RO_mv, RO_len, RO_bin, RO_binb, RO_un, RO_pick, RO_ixs, RO_fld, RO_part, RO_ixa, RO_ixv, RO_eqa, RO_eqn, RO_mx2, RO_mn2, RO_build2, RO_lit0, RO_lit1, RO_lit2, RO_mkfn0, RO_mkfn1, RO_cap, RO_slice_l, RO_slice_h, RO_slice_lh, RO_box, RO_alloc, RO_store, RO_clear, RO_callv0, RO_callv1, RO_callv2, RO_append, RO_load, RO_callf0, RO_callf1, RO_callf2, RO_callf3, RO_callf4, RO_guard, RO_nil, put_fr, opd_t, opd_c, upd_eq', upd_ne, ne_eq, ↓OM_some, ↓OM_none, ↓CM_bool, ↓CB_true, ↓CB_false, ↓GM_t, ↓GM_f, ↓GM_tup, OM_some, OM_none, CM_bool, CB_true, CB_false, GM_t, GM_f, GM_tup, reduceIte, reduceCtorEq, Nat.reduceLT, Nat.reduceEqDiff, not_false_eq_true, not_true_eq_false, bin_add, bin_sub, bin_mul, bin_eql, bin_neq, bin_lss, bin_leq, bin_gtr, bin_geq, bin_seql, bin_sneq, binb_eql, binb_neq, un_not, un_neg, pick_t, pick_f, mn_2, mx_2, len_nils, len_fs, len_row, eqa_2, bld2_int, lit2_int, decide_true, decide_false, Bool.not_true, Bool.not_false, Bool.false_eq_true, List.length_map, List.getD_cons_zero, List.getD_cons_succ, List.getD_nil, c38_r2, g2, l1, FinQ_retd, hk, res_t]
  unfold mk3
  rcases s2 with ⟨h1, rfl⟩ | ⟨h1, j, h2, h3⟩
  · rw [h1]
    exact leave3 rfl (fun _ _ _ _ _ _ => by simp)
  · have hne : (goodL l).map encP ≠ [] := by simpa using h1
    rw [if_neg hne]
    have ho : Ow 2 H.length ((r.2.set (H.length + 1 + 1) .dead).set (H.length + 1) .dead) sv ((goodL l).map encP) j := h3.of (by rw [List.getElem?_set_ne (by omega), List.getElem?_set_ne (by omega)])
    obtain ⟨ver, c, rfl, hrd⟩ := ho.rd
    exact leave3_row (by omega) hrd (underP _)

theorem mk3_leave {l : List (Int × Int)} {h0 : Heap} : leave 3 h0.length h0 (mk3 2 h0 (l.map encP)).2 (mk3 2 h0 (l.map encP)).1 = some (mk3 2 h0 (l.map encP)) := by
  unfold mk3
  by_cases h : l.map encP = []
  · rw [if_pos h]
    exact leave3 rfl (fun _ _ _ _ _ _ => by simp)
  · rw [if_neg h]
    exact leave3_row (Nat.le_refl _) (by simp [rdEls, rdRow]; rw [List.take_of_length_le (by simp)]) (underP l)

theorem f21_spec {l : List (Int × Int)} {b : Nat} {v0 : AV} (hb : H[b]? = some (.cells 0 [[v0]])) (hsl : ∀ h : Heap, (∀ k, k < H.length → h[k]? = H[k]?) → Sl 2 h v0 (l.map encP)) (hl : (l.length + 1) * 16 ≤ maxLn) (hw : cx.wp ≤ H.length) :
    callF (T p23 p36) (ev (T p23 p36)) cx 21 [.fn 39 [.ref b 0 0 0]] H = some (mk3 2 H ((goodL l).map encP)) := by
  refine callF_code (a := a21) rfl hw (Nat.le_of_ble_eq_true rfl) ?_
  simp only [a21, c21, Ctx.enter]
  simp (disch := omega) only [RK_seq, RK_region0, RK_block, RK_cond, RK_skip, RK_ret, RK_exit, RE_seq, RE_seq_exit, RE_seq_ret, RE_block, RE_block_ret, RE_block_exit, RE_nil, RO_mv, RO_len, RO_bin, RO_binb, RO_un, RO_pick, RO_ixs, RO_fld, RO_part, RO_ixa, RO_ixv, RO_eqa, RO_eqn, RO_mx2, RO_mn2, RO_build2, RO_lit0, RO_lit1, RO_lit2, RO_mkfn0, RO_mkfn1, RO_cap, RO_slice_l, RO_slice_h, RO_slice_lh, RO_box, RO_alloc, RO_store, RO_clear, RO_callv0, RO_callv1, RO_callv2, RO_append, RO_load, RO_callf0, RO_callf1, RO_callf2, RO_callf3, RO_callf4, RO_guard, RO_nil, put_fr, opd_t, opd_c, upd_eq', upd_ne, ne_eq, ↓OM_some, ↓OM_none, ↓CM_bool, ↓CB_true, ↓CB_false, ↓GM_t, ↓GM_f, ↓GM_tup, OM_some, OM_none, CM_bool, CB_true, CB_false, GM_t, GM_f, GM_tup, reduceIte, reduceCtorEq, Nat.reduceLT, Nat.reduceEqDiff, not_false_eq_true, not_true_eq_false, bin_add, bin_sub, bin_mul, bin_eql, bin_neq, bin_lss, bin_leq, bin_gtr, bin_geq, bin_seql, bin_sneq, binb_eql, binb_neq, un_not, un_neg, pick_t, pick_f, mn_2, mx_2, len_nils, len_fs, len_row, eqa_2, bld2_int, lit2_int, decide_true, decide_false, Bool.not_true, Bool.not_false, Bool.false_eq_true, List.length_map, List.getD_cons_zero, List.getD_cons_succ, List.getD_nil, c21_r0, c21_r1, f38_spec (cx := ⟨H.length, none⟩) hb hsl hl (Nat.le_refl _), FinQ_ret, res_t]
  exact mk3_leave
end Go.Proofs.Tryt17A
end
