import Derived.Test.YtlnnhldhhaooiaaBe

set_option linter.unusedVariables false
set_option linter.unusedSimpArgs false
set_option linter.unusedSectionVars false
set_option linter.unnecessarySimpa false

section
namespace Go.Proofs.Tryt17A
open Go Go.AM
set_option linter.unusedSimpArgs false
set_option linter.unusedVariables false

/-! ### Sorting -/
def insP (x : Int × Int) : List (Int × Int) → List (Int × Int)
  | [] => [x]
  | y :: l => if x.1 < y.1 ∨ x.1 = y.1 ∧ x.2 ≤ y.2 then x :: y :: l else y :: insP x l
def sortP : List (Int × Int) → List (Int × Int)
  | [] => []
  | x :: l => insP x (sortP l)
def insI (x : Int) : List Int → List Int
  | [] => [x]
  | y :: l => if x ≤ y then x :: y :: l else y :: insI x l
def sortI : List Int → List Int
  | [] => []
  | x :: l => insI x (sortI l)

theorem insP_perm (x : Int × Int) : ∀ l, (insP x l).Perm (x :: l)
  | [] => .refl _
  | y :: l => by
    simp only [insP]
    split
    · exact .refl _
    · exact ((insP_perm x l).cons y).trans (.swap x y l)
theorem sortP_perm : ∀ l, (sortP l).Perm l
  | [] => .refl _
  | x :: l => (insP_perm x _).trans ((sortP_perm l).cons x)
theorem insI_perm (x : Int) : ∀ l, (insI x l).Perm (x :: l)
  | [] => .refl _
  | y :: l => by
    simp only [insI]
    split
    · exact .refl _
    · exact ((insI_perm x l).cons y).trans (.swap x y l)
theorem sortI_perm : ∀ l, (sortI l).Perm l
  | [] => .refl _
  | x :: l => (insI_perm x _).trans ((sortI_perm l).cons x)

def leP (x y : Int × Int) : Prop := x.1 < y.1 ∨ x.1 = y.1 ∧ x.2 ≤ y.2
theorem insP_sorted (x : Int × Int) : ∀ l, l.Pairwise leP → (insP x l).Pairwise leP
  | [], _ => by simp [insP]
  | y :: l, h => by
    simp only [insP]
    have hh := List.pairwise_cons.1 h
    split
    · rename_i hc
      refine List.pairwise_cons.2 ⟨fun z hz => ?_, h⟩
      rcases List.mem_cons.1 hz with rfl | hz
      · exact hc
      · have := hh.1 z hz
        simp only [leP] at *
        omega
    · rename_i hc
      refine List.pairwise_cons.2 ⟨fun z hz => ?_, insP_sorted x l hh.2⟩
      have := (insP_perm x l).mem_iff.1 hz
      rcases List.mem_cons.1 this with rfl | hz
      · simp only [leP]; omega
      · exact hh.1 z hz
theorem sortP_sorted : ∀ l, (sortP l).Pairwise leP
  | [] => by simp [sortP]
  | x :: l => insP_sorted x _ (sortP_sorted l)
theorem insI_sorted (x : Int) : ∀ l : List Int, l.Pairwise (· ≤ ·) → (insI x l).Pairwise (· ≤ ·)
  | [], _ => by simp [insI]
  | y :: l, h => by
    simp only [insI]
    have hh := List.pairwise_cons.1 h
    split
    · rename_i hc
      refine List.pairwise_cons.2 ⟨fun z hz => ?_, h⟩
      rcases List.mem_cons.1 hz with rfl | hz
      · exact hc
      · have := hh.1 z hz
        omega
    · rename_i hc
      refine List.pairwise_cons.2 ⟨fun z hz => ?_, insI_sorted x l hh.2⟩
      have := (insI_perm x l).mem_iff.1 hz
      rcases List.mem_cons.1 this with rfl | hz
      · omega
      · exact hh.1 z hz
theorem sortI_sorted : ∀ l : List Int, (sortI l).Pairwise (· ≤ ·)
  | [] => by simp [sortI]
  | x :: l => insI_sorted x _ (sortI_sorted l)

def decP : List AV → Option (Int × Int)
  | [.int .i64 a, .int .i64 b] => some (a, b)
  | _ => none
def decI : List AV → Option Int
  | [.int .i64 a] => some a
  | _ => none

/-- slices.SortFunc at pairs, by Of's comparison; slices.Sort at numbers. -/
def prim23 (wp : Nat) (args : List AV) (h : Heap) : Option (AV × Heap) :=
  match args with
  | [.row i v 0 n _ 2, .fn 24 []] => if wp ≤ i ∧ n < 4611686018427387904 then do
      let all ← rdRow h i v
      let es ← rdEls h i v 0 n
      let l ← mapO decP es
      some (.tup [], h.set i (.cells v ((sortP l).map encP ++ all.drop n)))
    else none
  | [.nils, .fn 24 []] => some (.tup [], h)
  | [.fs [] _, .fn 24 []] => some (.tup [], h)
  | _ => none
def prim36 (wp : Nat) (args : List AV) (h : Heap) : Option (AV × Heap) :=
  match args with
  | [.row i v 0 n _ 1] => if wp ≤ i ∧ n < 4611686018427387904 then do
      let all ← rdRow h i v
      let es ← rdEls h i v 0 n
      let l ← mapO decI es
      some (.tup [], h.set i (.cells v ((sortI l).map encI ++ all.drop n)))
    else none
  | [.nils] => some (.tup [], h)
  | [.fs [] _] => some (.tup [], h)
  | _ => none

theorem decP_map : ∀ l : List (Int × Int), mapO decP (l.map encP) = some l
  | [] => rfl
  | x :: l => by simp only [List.map_cons, mapO, decP_map l, encP, decP, Option.bind_eq_bind, Option.bind_some]
theorem decI_map : ∀ l : List Int, mapO decI (l.map encI) = some l
  | [] => rfl
  | x :: l => by simp only [List.map_cons, mapO, decI_map l, encI, decI, Option.bind_eq_bind, Option.bind_some]

variable {cx : Ctx} {H : Heap}

theorem ow_sorted {z wp i : Nat} {v : AV} {es es' : List (List AV)} {ver c : Nat} {all : List (List AV)} (hl : es'.length = es.length) (hz : ∀ e ∈ es', e.length = z) (hw : wp ≤ i) (hi : i < H.length) (hall : c ≤ all.length) (hc : es.length ≤ c) :
    Ow z wp (H.set i (.cells ver (es' ++ all.drop es.length))) (.row i ver 0 es.length c z) es' i :=
  ⟨⟨ver, c, _, by rw [hl], List.getElem?_set_self hi, by rw [List.take_append_of_le_length (Nat.le_refl _), List.take_length], by simp; omega, by omega⟩, hw, hz⟩

theorem sortP_call {v : AV} {l : List (Int × Int)} {i : Nat} (ho : Ow 2 cx.wp H v (l.map encP) i) (hb : l.length < 4611686018427387904) :
    ∃ bx, callF (T prim23 prim36) (ev (T prim23 prim36)) cx 23 [v, .fn 24 []] H = some (.tup [], H.set i bx) ∧ Ow 2 cx.wp (H.set i bx) v ((sortP l).map encP) i := by
  obtain ⟨ver, c, hv, hrd⟩ := ho.rd
  obtain ⟨ver', c', all, hv', hH, hall, hal, hlc⟩ := ho.row
  rw [hv] at hv'
  injection hv' with _ e2 _ _ e3 _
  subst e2; subst e3; subst hv
  refine ⟨.cells ver ((sortP l).map encP ++ all.drop l.length), ?_, ?_⟩
  · unfold callF
    rw [show ((T prim23 prim36)).fn 23 = some (.prim prim23) from rfl]
    rw [List.length_map] at hrd
    simp only [prim23, if_pos (And.intro ho.wp hb), rdRow_of hH, hrd, decP_map, Option.bind_eq_bind, Option.bind_some, List.length_map]
  · have := ow_sorted (H := H) (z := 2) (wp := cx.wp) (i := i) (v := .nils) (es := l.map encP) (es' := (sortP l).map encP) (ver := ver) (c := c) (all := all) (by simp [(sortP_perm l).length_eq]) (lensP _) ho.wp ho.lt hal hlc
    simpa using this
theorem sortI_call {v : AV} {l : List Int} {i : Nat} (ho : Ow 1 cx.wp H v (l.map encI) i) (hb : l.length < 4611686018427387904) :
    ∃ bx, callF (T prim23 prim36) (ev (T prim23 prim36)) cx 36 [v] H = some (.tup [], H.set i bx) ∧ Ow 1 cx.wp (H.set i bx) v ((sortI l).map encI) i := by
  obtain ⟨ver, c, hv, hrd⟩ := ho.rd
  obtain ⟨ver', c', all, hv', hH, hall, hal, hlc⟩ := ho.row
  rw [hv] at hv'
  injection hv' with _ e2 _ _ e3 _
  subst e2; subst e3; subst hv
  refine ⟨.cells ver ((sortI l).map encI ++ all.drop l.length), ?_, ?_⟩
  · unfold callF
    rw [show ((T prim23 prim36)).fn 36 = some (.prim prim36) from rfl]
    rw [List.length_map] at hrd
    simp only [prim36, if_pos (And.intro ho.wp hb), rdRow_of hH, hrd, decI_map, Option.bind_eq_bind, Option.bind_some, List.length_map]
  · have := ow_sorted (H := H) (z := 1) (wp := cx.wp) (i := i) (v := .nils) (es := l.map encI) (es' := (sortI l).map encI) (ver := ver) (c := c) (all := all) (by simp [(sortI_perm l).length_eq]) (lensI _) ho.wp ho.lt hal hlc
    simpa using this
theorem sort_empty {v : AV} (hv : v = .nils ∨ v = .fs [] true) : callF (T prim23 prim36) (ev (T prim23 prim36)) cx 36 [v] H = some (.tup [], H) := by rcases hv with rfl | rfl <;> rfl
theorem sortP_nil : callF (T prim23 prim36) (ev (T prim23 prim36)) cx 23 [.nils, .fn 24 []] H = some (.tup [], H) := rfl

theorem compact_emptyP {v : AV} (hv : v = .nils ∨ v = .fs [] true) (hw : cx.wp ≤ H.length) : callF (T prim23 prim36) (ev (T prim23 prim36)) cx 27 [v] H = some (v, H) := by
  have hlen : lenM v = some (.int .i64 0) := by rcases hv with rfl | rfl <;> simp [lenM]
  refine callF_code (a := a27) rfl hw (Nat.le_of_ble_eq_true rfl) ?_
  simp only [a27, c27]
  have e : ((0 : Int) < 2) = True := by simp
  simp (disch := omega) only [RK_seq, RK_region0, RK_block, RK_cond, RK_skip, RK_ret, RK_exit, RE_seq, RE_seq_exit, RE_seq_ret, RE_block, RE_block_ret, RE_block_exit, RE_nil, RO_mv, RO_len, RO_bin, RO_binb, RO_un, RO_pick, RO_ixs, RO_fld, RO_part, RO_ixa, RO_ixv, RO_eqa, RO_eqn, RO_mx2, RO_mn2, RO_build2, RO_lit0, RO_lit1, RO_lit2, RO_mkfn0, RO_mkfn1, RO_cap, RO_slice_l, RO_slice_h, RO_slice_lh, RO_box, RO_alloc, RO_store, RO_clear, RO_callv0, RO_callv1, RO_callv2, RO_append, RO_load, RO_callf0, RO_callf1, RO_callf2, RO_callf3, RO_callf4, RO_guard, RO_nil, put_fr, opd_t, opd_c, upd_eq', upd_ne, ne_eq, ↓OM_some, ↓OM_none, ↓CM_bool, ↓CB_true, ↓CB_false, ↓GM_t, ↓GM_f, ↓GM_tup, OM_some, OM_none, CM_bool, CB_true, CB_false, GM_t, GM_f, GM_tup, reduceIte, reduceCtorEq, Nat.reduceLT, Nat.reduceEqDiff, not_false_eq_true, not_true_eq_false, bin_add, bin_sub, bin_mul, bin_eql, bin_neq, bin_lss, bin_leq, bin_gtr, bin_geq, bin_seql, bin_sneq, binb_eql, binb_neq, un_not, un_neg, pick_t, pick_f, mn_2, mx_2, len_nils, len_fs, len_row, eqa_2, bld2_int, lit2_int, decide_true, decide_false, Bool.not_true, Bool.not_false, Bool.false_eq_true, List.length_map, List.getD_cons_zero, List.getD_cons_succ, List.getD_nil, c27_r0, c27_r1, c27_r2, hlen, e, FinQ_ret, res_t]
  exact leave0
theorem compact_emptyI {v : AV} (hv : v = .nils ∨ v = .fs [] true) (hw : cx.wp ≤ H.length) : callF (T prim23 prim36) (ev (T prim23 prim36)) cx 37 [v] H = some (v, H) := by
  have hlen : lenM v = some (.int .i64 0) := by rcases hv with rfl | rfl <;> simp [lenM]
  refine callF_code (a := a37) rfl hw (Nat.le_of_ble_eq_true rfl) ?_
  simp only [a37, c37]
  have e : ((0 : Int) < 2) = True := by simp
  simp (disch := omega) only [RK_seq, RK_region0, RK_block, RK_cond, RK_skip, RK_ret, RK_exit, RE_seq, RE_seq_exit, RE_seq_ret, RE_block, RE_block_ret, RE_block_exit, RE_nil, RO_mv, RO_len, RO_bin, RO_binb, RO_un, RO_pick, RO_ixs, RO_fld, RO_part, RO_ixa, RO_ixv, RO_eqa, RO_eqn, RO_mx2, RO_mn2, RO_build2, RO_lit0, RO_lit1, RO_lit2, RO_mkfn0, RO_mkfn1, RO_cap, RO_slice_l, RO_slice_h, RO_slice_lh, RO_box, RO_alloc, RO_store, RO_clear, RO_callv0, RO_callv1, RO_callv2, RO_append, RO_load, RO_callf0, RO_callf1, RO_callf2, RO_callf3, RO_callf4, RO_guard, RO_nil, put_fr, opd_t, opd_c, upd_eq', upd_ne, ne_eq, ↓OM_some, ↓OM_none, ↓CM_bool, ↓CB_true, ↓CB_false, ↓GM_t, ↓GM_f, ↓GM_tup, OM_some, OM_none, CM_bool, CB_true, CB_false, GM_t, GM_f, GM_tup, reduceIte, reduceCtorEq, Nat.reduceLT, Nat.reduceEqDiff, not_false_eq_true, not_true_eq_false, bin_add, bin_sub, bin_mul, bin_eql, bin_neq, bin_lss, bin_leq, bin_gtr, bin_geq, bin_seql, bin_sneq, binb_eql, binb_neq, un_not, un_neg, pick_t, pick_f, mn_2, mx_2, len_nils, len_fs, len_row, eqa_2, bld2_int, lit2_int, decide_true, decide_false, Bool.not_true, Bool.not_false, Bool.false_eq_true, List.length_map, List.getD_cons_zero, List.getD_cons_succ, List.getD_nil, c37_r0, c37_r1, c37_r2, hlen, e, FinQ_ret, res_t]
  exact leave0

/-! ### Of -/
def ofL (l : List (Int × Int)) : List (Int × Int) := dd (0, 0) (sortP (goodL l)) (sortP (goodL l)).length

theorem mk3_Own {z : Nat} {es : List (List AV)} : Own3 z H es (mk3 z H es) := by
  unfold mk3
  by_cases h : es = []
  · rw [if_pos h]; exact .inl ⟨h, .inl rfl, rfl⟩
  · rw [if_neg h]; exact .inr rfl

theorem f7_spec {l : List (Int × Int)} {v : AV} (hv : v.cells = some [v]) (hsl : ∀ h : Heap, (∀ k, k < H.length → h[k]? = H[k]?) → Sl 2 h v (l.map encP)) (hl : (l.length + 1) * 16 ≤ maxLn) (hw : cx.wp ≤ H.length) :
    ∃ r, callF (T prim23 prim36) (ev (T prim23 prim36)) cx 7 [v] H = some r ∧ Own3 2 H ((ofL l).map encP) r := by
  refine callF_codeE (a := a7) rfl hw (Nat.le_of_ble_eq_true rfl) ?_
  simp only [a7, c7, Ctx.enter]
  have h22 := f22_spec (p23 := prim23) (p36 := prim36) (cx := ⟨H.length, none⟩) (H := H) hv (Nat.le_refl _)
  have h21 := f21_spec (p23 := prim23) (p36 := prim36) (cx := ⟨H.length, none⟩) (H := H ++ [.cells 0 [[v]]]) (l := l) (b := H.length) (v0 := v) (by simp) (fun h hh => hsl h (fun k hk => by rw [hh k (by simp; omega), List.getElem?_append_left hk])) hl (by simp)
  by_cases hg : goodL l = []
  · have e : mk3 2 (H ++ [.cells 0 [[v]]]) ((goodL l).map encP) = (.nils, H ++ [.cells 0 [[v]]]) := by simp [mk3, hg]
    rw [e] at h21
    have ho : ofL l = [] := by simp [ofL, hg, sortP, dd]
    simp (disch := omega) only [RK_seq, RK_region0, RK_block, RK_cond, RK_skip, RK_ret, RK_exit, RE_seq, RE_seq_exit, RE_seq_ret, RE_block, RE_block_ret, RE_block_exit, RE_nil, RO_mv, RO_len, RO_bin, RO_binb, RO_un, RO_pick, RO_ixs, RO_fld, RO_part, RO_ixa, RO_ixv, RO_eqa, RO_eqn, RO_mx2, RO_mn2, RO_build2, RO_lit0, RO_lit1, RO_lit2, RO_mkfn0, RO_mkfn1, RO_cap, RO_slice_l, RO_slice_h, RO_slice_lh, RO_box, RO_alloc, RO_store, RO_clear, RO_callv0, RO_callv1, RO_callv2, RO_append, RO_load, RO_callf0, RO_callf1, RO_callf2, RO_callf3, RO_callf4, RO_guard, RO_nil, put_fr, opd_t, opd_c, upd_eq', upd_ne, ne_eq, ↓OM_some, ↓OM_none, ↓CM_bool, ↓CB_true, ↓CB_false, ↓GM_t, ↓GM_f, ↓GM_tup, OM_some, OM_none, CM_bool, CB_true, CB_false, GM_t, GM_f, GM_tup, reduceIte, reduceCtorEq, Nat.reduceLT, Nat.reduceEqDiff, not_false_eq_true, not_true_eq_false, bin_add, bin_sub, bin_mul, bin_eql, bin_neq, bin_lss, bin_leq, bin_gtr, bin_geq, bin_seql, bin_sneq, binb_eql, binb_neq, un_not, un_neg, pick_t, pick_f, mn_2, mx_2, len_nils, len_fs, len_row, eqa_2, bld2_int, lit2_int, decide_true, decide_false, Bool.not_true, Bool.not_false, Bool.false_eq_true, List.length_map, List.getD_cons_zero, List.getD_cons_succ, List.getD_nil, c7_r0, c7_r1, c7_r2, c7_r3, h22, h21, sortP_nil, compact_emptyP (cx := ⟨H.length, none⟩) (H := H ++ [.cells 0 [[v]]]) (.inl rfl) (by simp), FinQ_ret, res_t]
    exact ⟨_, leave3 rfl (fun _ _ _ _ _ _ => by simp), .inl ⟨by rw [ho]; rfl, .inl rfl, rfl⟩⟩
  · have hne : (goodL l).map encP ≠ [] := by simpa using hg
    generalize hH1 : H ++ [Box.cells 0 [[v]]] = H1 at *
    have hl1 : H1.length = H.length + 1 := by rw [← hH1]; simp
    have e : mk3 2 H1 ((goodL l).map encP) = (.row H1.length 0 0 (goodL l).length (goodL l).length 2, H1 ++ [.cells 0 ((goodL l).map encP)]) := by simp [mk3, hg]
    rw [e] at h21
    have o1 : Ow 2 H.length (H1 ++ [.cells 0 ((goodL l).map encP)]) (.row H1.length 0 0 (goodL l).length (goodL l).length 2) ((goodL l).map encP) H1.length := by
      have := Own3.ow (z := 2) (wp := H.length) (H := H1) (es := (goodL l).map encP) (by omega) (lensP _)
      simpa using this
    obtain ⟨bx, s1, s2⟩ := sortP_call (cx := ⟨H.length, none⟩) o1 (by have := goodL_len l; unfold maxLn at hl; omega)
    obtain ⟨v', bx', k1, k2⟩ := compact_specP (p23 := prim23) (p36 := prim36) (cx := ⟨H.length, none⟩) s2 (by rw [(sortP_perm _).length_eq]; have := goodL_len l; unfold maxLn at hl; omega) (by simp; omega)
    simp (disch := omega) only [RK_seq, RK_region0, RK_block, RK_cond, RK_skip, RK_ret, RK_exit, RE_seq, RE_seq_exit, RE_seq_ret, RE_block, RE_block_ret, RE_block_exit, RE_nil, RO_mv, RO_len, RO_bin, RO_binb, RO_un, RO_pick, RO_ixs, RO_fld, RO_part, RO_ixa, RO_ixv, RO_eqa, RO_eqn, RO_mx2, RO_mn2, RO_build2, RO_lit0, RO_lit1, RO_lit2, RO_mkfn0, RO_mkfn1, RO_cap, RO_slice_l, RO_slice_h, RO_slice_lh, RO_box, RO_alloc, RO_store, RO_clear, RO_callv0, RO_callv1, RO_callv2, RO_append, RO_load, RO_callf0, RO_callf1, RO_callf2, RO_callf3, RO_callf4, RO_guard, RO_nil, put_fr, opd_t, opd_c, upd_eq', upd_ne, ne_eq, ↓OM_some, ↓OM_none, ↓CM_bool, ↓CB_true, ↓CB_false, ↓GM_t, ↓GM_f, ↓GM_tup, OM_some, OM_none, CM_bool, CB_true, CB_false, GM_t, GM_f, GM_tup, reduceIte, reduceCtorEq, Nat.reduceLT, Nat.reduceEqDiff, not_false_eq_true, not_true_eq_false, bin_add, bin_sub, bin_mul, bin_eql, bin_neq, bin_lss, bin_leq, bin_gtr, bin_geq, bin_seql, bin_sneq, binb_eql, binb_neq, un_not, un_neg, pick_t, pick_f, mn_2, mx_2, len_nils, len_fs, len_row, eqa_2, bld2_int, lit2_int, decide_true, decide_false, Bool.not_true, Bool.not_false, Bool.false_eq_true, List.length_map, List.getD_cons_zero, List.getD_cons_succ, List.getD_nil, c7_r0, c7_r1, c7_r2, c7_r3, h22, h21, s1, k1, FinQ_ret, res_t]
    obtain ⟨ver, c, rfl, hrd⟩ := k2.rd
    refine ⟨_, leave3_row (by omega) hrd (underP _), .inr ?_⟩
    rfl
end Go.Proofs.Tryt17A
end

section
namespace Go.Proofs.Tryt17A
open Go Go.AM
set_option linter.unusedSimpArgs false
set_option linter.unusedVariables false
variable {cx : Ctx} {H : Heap}

/-! ### Places -/
def plL (l : List Int) : List Int := dd 0 (sortI (l.filter fun x => !decide (x < 0))) (sortI (l.filter fun x => !decide (x < 0))).length

/-- A slice that may be copied: nil, or not. -/
theorem isNil_cases {z : Nat} {v : AV} {es : List (List AV)} (hs : Sl z H v es) : v = .nils ∧ es = [] ∨ isNilK 0 v = some false := by
  have := hs.len
  cases v <;> simp [lenM] at this
  · exact .inl ⟨rfl, List.eq_nil_of_length_eq_zero (by omega)⟩
  · exact .inr rfl
  · exact .inr rfl

theorem own3_leave {z : Nat} {es : List (List AV)} {h0 : Heap} {r : AV × Heap} (ho : Own3 z h0 es r) (hu : ∀ e ∈ es, ∀ c ∈ e, AV.under h0.length c = true) : leave 3 h0.length h0 r.2 r.1 = some r := by
  rcases ho with ⟨_, h1, h2⟩ | rfl
  · obtain ⟨a, b⟩ := r
    simp only at h1 h2
    subst h2
    rcases h1 with rfl | rfl <;> exact leave3 rfl (fun _ _ _ _ _ _ => by simp)
  · exact leave3_row (Nat.le_refl _) (by simp [rdEls, rdRow]) hu

theorem f12_spec {l : List Int} {v : AV} (hs : Sl 1 H v (l.map encI)) (hl : (l.length + 1) * 8 ≤ maxLn) (hw : cx.wp ≤ H.length) :
    ∃ r, callF (T prim23 prim36) (ev (T prim23 prim36)) cx 12 [v] H = some r ∧ Own3 1 H ((plL l).map encI) r := by
  have hl' : l.length < 4611686018427387904 := by unfold maxLn at hl; omega
  have hp : ∀ w (x : Int) (h : Heap), w ≤ h.length → callF (T prim23 prim36) (ev (T prim23 prim36)) ⟨w, none⟩ 35 (valI x :: []) h = some (.bool (decide (x < 0)), h) := fun w x h hh => f35_spec x hh
  refine callF_codeE (a := a12) rfl hw (Nat.le_of_ble_eq_true rfl) ?_
  simp only [a12, c12, Ctx.enter]
  have small : ∀ u, (u = .nils ∨ u = .fs [] true) → l = [] → callF (T prim23 prim36) (ev (T prim23 prim36)) ⟨H.length, none⟩ 33 [v] H = some (u, H) →
      RK (T prim23 prim36) ⟨H.length, none⟩ (FinQ H [Res.t 2] fun v h' => ∃ r, leave 3 H.length H h' v = some r ∧ Own3 1 H ((plL l).map encI) r)
        ((AC.region c12_r0 [] []).seq ((AC.region c12_r1 [] []).seq ((AC.region c12_r2 [] []).seq ((AC.region c12_r3 [] []).seq AC.ret)))) [] ⟨mkfr 11 fun n => [v].getD n AV.any, [], H⟩ := by
    intro u hu hl0 hc
    have hd := del_emptyI (p23 := prim23) (p36 := prim36) (cx := ⟨H.length, none⟩) (H := H) (v := u) 35 [] hu (Nat.le_refl _)
    have hd' : callF (T prim23 prim36) (ev (T prim23 prim36)) ⟨H.length, none⟩ 34 [u, .fn 35 []] H = some (u, H) := by
      have hs0 : Sl 1 H u (([] : List Int).map encI) := by rcases hu with rfl | rfl <;> first | exact .nils | exact .fs (by simp)
      have hix := ixf_specI (p23 := prim23) (p36 := prim36) (cx := ⟨H.length, none⟩) (fun x => decide (x < 0)) [] u 35 [] hs0 (by decide) (fun x => hp _ x H (Nat.le_refl _)) (Nat.le_refl _)
      have h1 : ixFI (fun x => decide (x < 0)) [] 0 = -1 := by rw [ixFI_none]; simp
      refine callF_code (a := a34) rfl (Nat.le_refl _) (Nat.le_of_ble_eq_true rfl) ?_
      simp only [a34, c34, Ctx.enter]
      simp (disch := omega) only [RK_seq, RK_region0, RK_block, RK_cond, RK_skip, RK_ret, RK_exit, RE_seq, RE_seq_exit, RE_seq_ret, RE_block, RE_block_ret, RE_block_exit, RE_nil, RO_mv, RO_len, RO_bin, RO_binb, RO_un, RO_pick, RO_ixs, RO_fld, RO_part, RO_ixa, RO_ixv, RO_eqa, RO_eqn, RO_mx2, RO_mn2, RO_build2, RO_lit0, RO_lit1, RO_lit2, RO_mkfn0, RO_mkfn1, RO_cap, RO_slice_l, RO_slice_h, RO_slice_lh, RO_box, RO_alloc, RO_store, RO_clear, RO_callv0, RO_callv1, RO_callv2, RO_append, RO_load, RO_callf0, RO_callf1, RO_callf2, RO_callf3, RO_callf4, RO_guard, RO_nil, put_fr, opd_t, opd_c, upd_eq', upd_ne, ne_eq, ↓OM_some, ↓OM_none, ↓CM_bool, ↓CB_true, ↓CB_false, ↓GM_t, ↓GM_f, ↓GM_tup, OM_some, OM_none, CM_bool, CB_true, CB_false, GM_t, GM_f, GM_tup, reduceIte, reduceCtorEq, Nat.reduceLT, Nat.reduceEqDiff, not_false_eq_true, not_true_eq_false, bin_add, bin_sub, bin_mul, bin_eql, bin_neq, bin_lss, bin_leq, bin_gtr, bin_geq, bin_seql, bin_sneq, binb_eql, binb_neq, un_not, un_neg, pick_t, pick_f, mn_2, mx_2, len_nils, len_fs, len_row, eqa_2, bld2_int, lit2_int, decide_true, decide_false, Bool.not_true, Bool.not_false, Bool.false_eq_true, List.length_map, List.getD_cons_zero, List.getD_cons_succ, List.getD_nil, c34_r0, c34_r1, c34_r2, c34_r3, hix, h1, FinQ_ret, res_t]
      exact leave0
    simp (disch := omega) only [RK_seq, RK_region0, RK_block, RK_cond, RK_skip, RK_ret, RK_exit, RE_seq, RE_seq_exit, RE_seq_ret, RE_block, RE_block_ret, RE_block_exit, RE_nil, RO_mv, RO_len, RO_bin, RO_binb, RO_un, RO_pick, RO_ixs, RO_fld, RO_part, RO_ixa, RO_ixv, RO_eqa, RO_eqn, RO_mx2, RO_mn2, RO_build2, RO_lit0, RO_lit1, RO_lit2, RO_mkfn0, RO_mkfn1, RO_cap, RO_slice_l, RO_slice_h, RO_slice_lh, RO_box, RO_alloc, RO_store, RO_clear, RO_callv0, RO_callv1, RO_callv2, RO_append, RO_load, RO_callf0, RO_callf1, RO_callf2, RO_callf3, RO_callf4, RO_guard, RO_nil, put_fr, opd_t, opd_c, upd_eq', upd_ne, ne_eq, ↓OM_some, ↓OM_none, ↓CM_bool, ↓CB_true, ↓CB_false, ↓GM_t, ↓GM_f, ↓GM_tup, OM_some, OM_none, CM_bool, CB_true, CB_false, GM_t, GM_f, GM_tup, reduceIte, reduceCtorEq, Nat.reduceLT, Nat.reduceEqDiff, not_false_eq_true, not_true_eq_false, bin_add, bin_sub, bin_mul, bin_eql, bin_neq, bin_lss, bin_leq, bin_gtr, bin_geq, bin_seql, bin_sneq, binb_eql, binb_neq, un_not, un_neg, pick_t, pick_f, mn_2, mx_2, len_nils, len_fs, len_row, eqa_2, bld2_int, lit2_int, decide_true, decide_false, Bool.not_true, Bool.not_false, Bool.false_eq_true, List.length_map, List.getD_cons_zero, List.getD_cons_succ, List.getD_nil, c12_r0, c12_r1, c12_r2, c12_r3, hc, hd', sort_empty hu, compact_emptyI (cx := ⟨H.length, none⟩) (H := H) hu (Nat.le_refl _), FinQ_ret, res_t]
    refine ⟨(u, H), ?_, .inl ⟨by rw [hl0]; rfl, hu, rfl⟩⟩
    rcases hu with rfl | rfl <;> exact leave3 rfl (fun _ _ _ _ _ _ => by simp)
  rcases isNil_cases hs with ⟨rfl, h0⟩ | hn
  · exact small .nils (.inl rfl) (by simpa using h0) (clone_nilI (Nat.le_refl _))
  · have hc := clone_specI (p23 := prim23) (p36 := prim36) (cx := ⟨H.length, none⟩) hs hn (by omega) (Nat.le_refl _)
    by_cases hl0 : l = []
    · rw [if_pos hl0] at hc
      exact small (.fs [] true) (.inr rfl) hl0 hc
    · rw [if_neg hl0] at hc
      have o1 : Ow 1 H.length (H ++ [.cells 0 (l.map encI)]) (.row H.length 0 0 l.length l.length 1) (l.map encI) H.length := by
        have := Own3.ow (z := 1) (wp := H.length) (H := H) (es := l.map encI) (Nat.le_refl _) (lensI _)
        simpa using this
      obtain ⟨r1, d1, d2, d3⟩ := del_specI (p23 := prim23) (p36 := prim36) (cx := ⟨H.length, none⟩) (fun x => decide (x < 0)) 35 [] o1 hl' (by simp) (fun w x h hh _ => hp w x h hh)
      obtain ⟨bx, s1, s2⟩ := sortI_call (cx := ⟨H.length, none⟩) d2 (by have := List.length_filter_le (fun x => !decide (x < 0)) l; omega)
      have hlen : (l.filter fun x => !decide (x < 0)).length ≤ l.length := List.length_filter_le _ _
      obtain ⟨v', bx', k1, k2⟩ := compact_specI (p23 := prim23) (p36 := prim36) (cx := ⟨H.length, none⟩) s2 (by rw [(sortI_perm _).length_eq]; omega) (by have := d3.1; simp at this ⊢; omega)
      simp (disch := omega) only [RK_seq, RK_region0, RK_block, RK_cond, RK_skip, RK_ret, RK_exit, RE_seq, RE_seq_exit, RE_seq_ret, RE_block, RE_block_ret, RE_block_exit, RE_nil, RO_mv, RO_len, RO_bin, RO_binb, RO_un, RO_pick, RO_ixs, RO_fld, RO_part, RO_ixa, RO_ixv, RO_eqa, RO_eqn, RO_mx2, RO_mn2, RO_build2, RO_lit0, RO_lit1, RO_lit2, RO_mkfn0, RO_mkfn1, RO_cap, RO_slice_l, RO_slice_h, RO_slice_lh, RO_box, RO_alloc, RO_store, RO_clear, RO_callv0, RO_callv1, RO_callv2, RO_append, RO_load, RO_callf0, RO_callf1, RO_callf2, RO_callf3, RO_callf4, RO_guard, RO_nil, put_fr, opd_t, opd_c, upd_eq', upd_ne, ne_eq, ↓OM_some, ↓OM_none, ↓CM_bool, ↓CB_true, ↓CB_false, ↓GM_t, ↓GM_f, ↓GM_tup, OM_some, OM_none, CM_bool, CB_true, CB_false, GM_t, GM_f, GM_tup, reduceIte, reduceCtorEq, Nat.reduceLT, Nat.reduceEqDiff, not_false_eq_true, not_true_eq_false, bin_add, bin_sub, bin_mul, bin_eql, bin_neq, bin_lss, bin_leq, bin_gtr, bin_geq, bin_seql, bin_sneq, binb_eql, binb_neq, un_not, un_neg, pick_t, pick_f, mn_2, mx_2, len_nils, len_fs, len_row, eqa_2, bld2_int, lit2_int, decide_true, decide_false, Bool.not_true, Bool.not_false, Bool.false_eq_true, List.length_map, List.getD_cons_zero, List.getD_cons_succ, List.getD_nil, c12_r0, c12_r1, c12_r2, c12_r3, hc, d1, s1, k1, FinQ_ret, res_t]
      obtain ⟨ver, c, rfl, hrd⟩ := k2.rd
      exact ⟨_, leave3_row (Nat.le_refl _) hrd (underI _), .inr rfl⟩

/-! ### Without -/
theorem own3_sl {z : Nat} {es : List (List AV)} {r : AV × Heap} (ho : Own3 z H es r) (hz : ∀ e ∈ es, e.length = z) : Sl z r.2 r.1 es := by
  rcases ho with ⟨h0, h1, h2⟩ | rfl
  · subst h0
    rcases h1 with h1 | h1 <;> rw [h1]
    · exact .nils
    · exact .fs (by simp)
  · exact (Own3.ow (wp := 0) (Nat.zero_le _) hz).sl

theorem own3_old {z : Nat} {es : List (List AV)} {r : AV × Heap} (ho : Own3 z H es r) : H.length ≤ r.2.length ∧ ∀ k, k < H.length → r.2[k]? = H[k]? := by
  rcases ho with ⟨_, _, h2⟩ | rfl
  · rw [h2]; exact ⟨Nat.le_refl _, fun _ _ => rfl⟩
  · exact ⟨by simp, fun k hk => List.getElem?_append_left hk⟩

theorem f31_spec {to : List Int} {b : Nat} {u : AV} (q : Int × Int) {h : Heap} (hb : h[b]? = some (.cells 0 [[u]])) (ht : ∀ x, Sl 1 (h ++ [x]) u (to.map encI)) (htl : to.length < 4611686018427387904) {w : Nat} (hw : w ≤ h.length) :
    callF (T prim23 prim36) (ev (T prim23 prim36)) ⟨w, none⟩ 31 (valP q :: [.ref b 0 0 0]) h = some (.bool (decide (q.1 ∈ to) || decide (q.2 ∈ to)), h) := by
  refine callF_code2 (a := a31) rfl rfl hw (Nat.le_of_ble_eq_true rfl) rfl ?_
  simp only [a31, c31]
  have hbl := (List.getElem?_eq_some_iff.1 hb).1
  have cz := cellsP (x := q)
  have P1 : Pt (h ++ [.cells 0 [encP q]]) (.ref h.length 0 0 0) (encP q) := pt_new
  have a0 := P1.ixa0 (k := .i64) (len := 2) (z := 1) (by decide)
  have a1 := P1.ixa1 (k := .i64) (len := 2) (z := 1) (by decide) (by simp [encP])
  have l0 : ldM _ false 1 (elf 0 (.ref h.length 0 0 0)) = _ := P1.ldf (off := 0) (by simp) (ag := false) (n := 1)
  have l1 : ldM _ false 1 (elf 1 (.ref h.length 0 0 0)) = _ := P1.ldf (off := 1) (by simp [encP]) (ag := false) (n := 1)
  simp only [encP] at l0 l1
  rw [partP0] at l0
  rw [partP1] at l1
  have hu := ld_cell (h := h ++ [.cells 0 [encP q]]) (i := b) (x := u) (by rw [List.getElem?_append_left hbl]; exact hb)
  have c0 := f32_spec (p23 := prim23) (p36 := prim36) (cx := ⟨h.length, none⟩) to q.1 u (ht (.cells 0 [encP q])) htl (by simp)
  have c1 := f32_spec (p23 := prim23) (p36 := prim36) (cx := ⟨h.length, none⟩) to q.2 u (ht (.cells 0 [encP q])) htl (by simp)
  simp only [encP] at hu c0 c1 a0 a1 cz
  cases d0 : decide (q.1 ∈ to)
  · simp (disch := omega) only [RK_seq, RK_region0, RK_block, RK_cond, RK_skip, RK_ret, RK_exit, RE_seq, RE_seq_exit, RE_seq_ret, RE_block, RE_block_ret, RE_block_exit, RE_nil, RO_mv, RO_len, RO_bin, RO_binb, RO_un, RO_pick, RO_ixs, RO_fld, RO_part, RO_ixa, RO_ixv, RO_eqa, RO_eqn, RO_mx2, RO_mn2, RO_build2, RO_lit0, RO_lit1, RO_lit2, RO_mkfn0, RO_mkfn1, RO_cap, RO_slice_l, RO_slice_h, RO_slice_lh, RO_box, RO_alloc, RO_store, RO_clear, RO_callv0, RO_callv1, RO_callv2, RO_append, RO_load, RO_callf0, RO_callf1, RO_callf2, RO_callf3, RO_callf4, RO_guard, RO_nil, put_fr, opd_t, opd_c, upd_eq', upd_ne, ne_eq, ↓OM_some, ↓OM_none, ↓CM_bool, ↓CB_true, ↓CB_false, ↓GM_t, ↓GM_f, ↓GM_tup, OM_some, OM_none, CM_bool, CB_true, CB_false, GM_t, GM_f, GM_tup, reduceIte, reduceCtorEq, Nat.reduceLT, Nat.reduceEqDiff, not_false_eq_true, not_true_eq_false, bin_add, bin_sub, bin_mul, bin_eql, bin_neq, bin_lss, bin_leq, bin_gtr, bin_geq, bin_seql, bin_sneq, binb_eql, binb_neq, un_not, un_neg, pick_t, pick_f, mn_2, mx_2, len_nils, len_fs, len_row, eqa_2, bld2_int, lit2_int, decide_true, decide_false, Bool.not_true, Bool.not_false, Bool.false_eq_true, List.length_map, List.getD_cons_zero, List.getD_cons_succ, List.getD_nil, c31_r0, c31_r1, cz, a0, a1, l0, l1, hu, c0, c1, d0, FinQ_ret, res_t, Bool.false_or]
  · simp (disch := omega) only [RK_seq, RK_region0, RK_block, RK_cond, RK_skip, RK_ret, RK_exit, RE_seq, RE_seq_exit, RE_seq_ret, RE_block, RE_block_ret, RE_block_exit, RE_nil, RO_mv, RO_len, RO_bin, RO_binb, RO_un, RO_pick, RO_ixs, RO_fld, RO_part, RO_ixa, RO_ixv, RO_eqa, RO_eqn, RO_mx2, RO_mn2, RO_build2, RO_lit0, RO_lit1, RO_lit2, RO_mkfn0, RO_mkfn1, RO_cap, RO_slice_l, RO_slice_h, RO_slice_lh, RO_box, RO_alloc, RO_store, RO_clear, RO_callv0, RO_callv1, RO_callv2, RO_append, RO_load, RO_callf0, RO_callf1, RO_callf2, RO_callf3, RO_callf4, RO_guard, RO_nil, put_fr, opd_t, opd_c, upd_eq', upd_ne, ne_eq, ↓OM_some, ↓OM_none, ↓CM_bool, ↓CB_true, ↓CB_false, ↓GM_t, ↓GM_f, ↓GM_tup, OM_some, OM_none, CM_bool, CB_true, CB_false, GM_t, GM_f, GM_tup, reduceIte, reduceCtorEq, Nat.reduceLT, Nat.reduceEqDiff, not_false_eq_true, not_true_eq_false, bin_add, bin_sub, bin_mul, bin_eql, bin_neq, bin_lss, bin_leq, bin_gtr, bin_geq, bin_seql, bin_sneq, binb_eql, binb_neq, un_not, un_neg, pick_t, pick_f, mn_2, mx_2, len_nils, len_fs, len_row, eqa_2, bld2_int, lit2_int, decide_true, decide_false, Bool.not_true, Bool.not_false, Bool.false_eq_true, List.length_map, List.getD_cons_zero, List.getD_cons_succ, List.getD_nil, c31_r0, c31_r1, cz, a0, a1, l0, l1, hu, c0, c1, d0, FinQ_ret, res_t, Bool.true_or]

def woL (l : List (Int × Int)) (to : List Int) : List (Int × Int) := (ofL l).filter fun q => !(decide (q.1 ∈ to) || decide (q.2 ∈ to))

theorem leave2_any {es : List (List AV)} {lb : Nat} {h0 h : Heap} {v : AV} (hv : v = .nils ∧ es = [] ∨ v = .fs [] true ∧ es = [] ∨ ∃ i ver c, lb ≤ i ∧ v = .row i ver 0 es.length c 2 ∧ rdEls h i ver 0 es.length = some es) (hu : ∀ e ∈ es, ∀ c ∈ e, AV.under lb c = true) :
    ∃ u, leave 2 lb h0 h v = some (u, h0) ∧ (u = .nils ∧ es = [] ∨ ∃ x, u = .fs es x) := by
  rcases hv with ⟨rfl, h0⟩ | ⟨rfl, h0⟩ | ⟨i, ver, c, h1, rfl, h2⟩
  · exact ⟨_, leave2 rfl, .inl ⟨rfl, h0⟩⟩
  · exact ⟨_, leave2 rfl, .inr ⟨true, by rw [h0]⟩⟩
  · exact ⟨_, leave2_row h1 h2 hu, .inr ⟨false, rfl⟩⟩

/-- A frozen slice. -/
def Fz (u : AV) (es : List (List AV)) : Prop := u = .nils ∧ es = [] ∨ ∃ x, u = .fs es x
theorem Fz.sl {z : Nat} {u : AV} {es : List (List AV)} (h : Fz u es) (hz : ∀ e ∈ es, e.length = z) (H : Heap) : Sl z H u es := by
  rcases h with ⟨rfl, rfl⟩ | ⟨x, rfl⟩
  · exact .nils
  · exact .fs hz
theorem Fz.cells {u : AV} {es : List (List AV)} (h : Fz u es) : u.cells = some [u] := by rcases h with ⟨rfl, _⟩ | ⟨x, rfl⟩ <;> rfl
/-- A slice that lives: it reads alike in every greater heap. -/
def Al (z : Nat) (H : Heap) (v : AV) (es : List (List AV)) : Prop := (v.cells = some [v] ∧ v.one = true) ∧ ∀ h : Heap, H.length ≤ h.length → (∀ k, k < H.length → h[k]? = H[k]?) → Sl z h v es
theorem Al.cells {z : Nat} {H : Heap} {v : AV} {es : List (List AV)} (h : Al z H v es) : v.cells = some [v] := h.1.1
theorem Al.sl {z : Nat} {H : Heap} {v : AV} {es : List (List AV)} (h : Al z H v es) : Sl z H v es := h.2 H (Nat.le_refl _) fun _ _ => rfl
theorem Fz.one {u : AV} {es : List (List AV)} (h : Fz u es) : u.one = true := by rcases h with ⟨rfl, _⟩ | ⟨x, rfl⟩ <;> rfl

theorem Fz.al {z : Nat} {u : AV} {es : List (List AV)} (h : Fz u es) (hz : ∀ e ∈ es, e.length = z) {H : Heap} : Al z H u es := ⟨⟨h.cells, h.one⟩, fun h' _ _ => h.sl hz h'⟩
theorem f10_spec {l : List (Int × Int)} {to : List Int} {v u : AV} (hv : Fz v (l.map encP)) (hu : Fz u (to.map encI)) (hl : (l.length + 1) * 16 ≤ maxLn) (htl : to.length < 4611686018427387904) (hw : cx.wp ≤ H.length) :
    ∃ r, callF (T prim23 prim36) (ev (T prim23 prim36)) cx 10 [v, u] H = some (r, H) ∧ Fz r ((woL l to).map encP) := by
  suffices hh : ∃ r : AV × Heap, callF (T prim23 prim36) (ev (T prim23 prim36)) cx 10 [v, u] H = some r ∧ r.2 = H ∧ Fz r.1 ((woL l to).map encP) by
    obtain ⟨⟨r, h⟩, h1, rfl, h2⟩ := hh
    exact ⟨r, h1, h2⟩
  refine callF_codeE (a := a10) rfl hw (Nat.le_of_ble_eq_true rfl) ?_
  simp only [a10, c10, Ctx.enter]
  have hH1 : (H ++ [Box.cells 0 [[u]]]).length = H.length + 1 := by simp
  obtain ⟨r, r1, r2⟩ := f7_spec (cx := ⟨H.length, none⟩) (H := H ++ [.cells 0 [[u]]]) hv.cells (fun h _ => hv.sl (lensP _) h) hl (by simp)
  have hbr : r.2[H.length]? = some (.cells 0 [[u]]) := by rw [(own3_old r2).2 _ (by simp)]; simp
  rcases r2 with ⟨h0, h1, h2⟩ | rfl
  · have d := del_emptyP (p23 := prim23) (p36 := prim36) (cx := ⟨H.length, none⟩) (H := r.2) (v := r.1) 31 [.ref H.length 0 0 0] h1 (by rw [h2]; simp)
    have ho : ofL l = [] := by simpa using h0
    have dd' : callF (T prim23 prim36) (ev (T prim23 prim36)) ⟨H.length, none⟩ 30 [r.1, .fn 31 [.ref H.length 0 0 0]] r.2 = some (r.1, r.2) := by
      have hs0 : Sl 2 r.2 r.1 (([] : List (Int × Int)).map encP) := by rcases h1 with h1 | h1 <;> rw [h1] <;> first | exact .nils | exact .fs (by simp)
      have hix := ixf_specP (p23 := prim23) (p36 := prim36) (cx := ⟨H.length, none⟩) (fun q => decide (q.1 ∈ to) || decide (q.2 ∈ to)) [] r.1 31 [.ref H.length 0 0 0] hs0 (by decide) (fun x => f31_spec x hbr (fun b => hu.sl (lensI _) _) htl (Nat.le_refl _)) (by rw [h2]; simp)
      have h1' : ixFP (fun q => decide (q.1 ∈ to) || decide (q.2 ∈ to)) [] 0 = -1 := by rw [ixFP_none]; simp
      refine callF_code (a := a30) rfl (by rw [h2]; simp) (Nat.le_of_ble_eq_true rfl) ?_
      simp only [a30, c30, Ctx.enter]
      simp (disch := omega) only [RK_seq, RK_region0, RK_block, RK_cond, RK_skip, RK_ret, RK_exit, RE_seq, RE_seq_exit, RE_seq_ret, RE_block, RE_block_ret, RE_block_exit, RE_nil, RO_mv, RO_len, RO_bin, RO_binb, RO_un, RO_pick, RO_ixs, RO_fld, RO_part, RO_ixa, RO_ixv, RO_eqa, RO_eqn, RO_mx2, RO_mn2, RO_build2, RO_lit0, RO_lit1, RO_lit2, RO_mkfn0, RO_mkfn1, RO_cap, RO_slice_l, RO_slice_h, RO_slice_lh, RO_box, RO_alloc, RO_store, RO_clear, RO_callv0, RO_callv1, RO_callv2, RO_append, RO_load, RO_callf0, RO_callf1, RO_callf2, RO_callf3, RO_callf4, RO_guard, RO_nil, put_fr, opd_t, opd_c, upd_eq', upd_ne, ne_eq, ↓OM_some, ↓OM_none, ↓CM_bool, ↓CB_true, ↓CB_false, ↓GM_t, ↓GM_f, ↓GM_tup, OM_some, OM_none, CM_bool, CB_true, CB_false, GM_t, GM_f, GM_tup, reduceIte, reduceCtorEq, Nat.reduceLT, Nat.reduceEqDiff, not_false_eq_true, not_true_eq_false, bin_add, bin_sub, bin_mul, bin_eql, bin_neq, bin_lss, bin_leq, bin_gtr, bin_geq, bin_seql, bin_sneq, binb_eql, binb_neq, un_not, un_neg, pick_t, pick_f, mn_2, mx_2, len_nils, len_fs, len_row, eqa_2, bld2_int, lit2_int, decide_true, decide_false, Bool.not_true, Bool.not_false, Bool.false_eq_true, List.length_map, List.getD_cons_zero, List.getD_cons_succ, List.getD_nil, c30_r0, c30_r1, c30_r2, c30_r3, hix, h1', FinQ_ret, res_t]
      exact leave0
    simp (disch := omega) only [RK_seq, RK_region0, RK_block, RK_cond, RK_skip, RK_ret, RK_exit, RE_seq, RE_seq_exit, RE_seq_ret, RE_block, RE_block_ret, RE_block_exit, RE_nil, RO_mv, RO_len, RO_bin, RO_binb, RO_un, RO_pick, RO_ixs, RO_fld, RO_part, RO_ixa, RO_ixv, RO_eqa, RO_eqn, RO_mx2, RO_mn2, RO_build2, RO_lit0, RO_lit1, RO_lit2, RO_mkfn0, RO_mkfn1, RO_cap, RO_slice_l, RO_slice_h, RO_slice_lh, RO_box, RO_alloc, RO_store, RO_clear, RO_callv0, RO_callv1, RO_callv2, RO_append, RO_load, RO_callf0, RO_callf1, RO_callf2, RO_callf3, RO_callf4, RO_guard, RO_nil, put_fr, opd_t, opd_c, upd_eq', upd_ne, ne_eq, ↓OM_some, ↓OM_none, ↓CM_bool, ↓CB_true, ↓CB_false, ↓GM_t, ↓GM_f, ↓GM_tup, OM_some, OM_none, CM_bool, CB_true, CB_false, GM_t, GM_f, GM_tup, reduceIte, reduceCtorEq, Nat.reduceLT, Nat.reduceEqDiff, not_false_eq_true, not_true_eq_false, bin_add, bin_sub, bin_mul, bin_eql, bin_neq, bin_lss, bin_leq, bin_gtr, bin_geq, bin_seql, bin_sneq, binb_eql, binb_neq, un_not, un_neg, pick_t, pick_f, mn_2, mx_2, len_nils, len_fs, len_row, eqa_2, bld2_int, lit2_int, decide_true, decide_false, Bool.not_true, Bool.not_false, Bool.false_eq_true, List.length_map, List.getD_cons_zero, List.getD_cons_succ, List.getD_nil, c10_r0, c10_r1, hu.cells, r1, dd', FinQ_ret, res_t]
    have hw0 : (woL l to).map encP = [] := by simp [woL, ho]
    obtain ⟨x, x1, x2⟩ := leave2_any (lb := H.length) (h0 := H) (h := r.2) (v := r.1) (es := (woL l to).map encP) (by rcases h1 with h1 | h1 <;> simp [h1, hw0]) (underP _)
    exact ⟨_, x1, rfl, x2⟩
  · have o1 : Ow 2 H.length (H ++ [.cells 0 [[u]]] ++ [.cells 0 ((ofL l).map encP)]) (.row (H ++ [Box.cells 0 [[u]]]).length 0 0 ((ofL l).map encP).length ((ofL l).map encP).length 2) ((ofL l).map encP) (H ++ [Box.cells 0 [[u]]]).length := Own3.ow (by simp) (lensP _)
    have hol : (ofL l).length ≤ l.length := by
      have := dd_lenP (sortP (goodL l)) (sortP (goodL l)).length
      have h2 := (sortP_perm (goodL l)).length_eq
      have h3 := goodL_len l
      unfold ofL
      omega
    obtain ⟨q, d1, d2, d3⟩ := del_specP (p23 := prim23) (p36 := prim36) (cx := ⟨H.length, none⟩) (fun q => decide (q.1 ∈ to) || decide (q.2 ∈ to)) 31 [.ref H.length 0 0 0] o1 (by unfold maxLn at hl; omega) (by simp) (fun w x h hh hb => by
      refine f31_spec x ?_ (fun b => hu.sl (lensI _) _) htl hh
      rw [hb.2 H.length (by simp) (by simp)]
      exact hbr)
    simp only [List.length_map] at r1 d1
    simp (disch := omega) only [RK_seq, RK_region0, RK_block, RK_cond, RK_skip, RK_ret, RK_exit, RE_seq, RE_seq_exit, RE_seq_ret, RE_block, RE_block_ret, RE_block_exit, RE_nil, RO_mv, RO_len, RO_bin, RO_binb, RO_un, RO_pick, RO_ixs, RO_fld, RO_part, RO_ixa, RO_ixv, RO_eqa, RO_eqn, RO_mx2, RO_mn2, RO_build2, RO_lit0, RO_lit1, RO_lit2, RO_mkfn0, RO_mkfn1, RO_cap, RO_slice_l, RO_slice_h, RO_slice_lh, RO_box, RO_alloc, RO_store, RO_clear, RO_callv0, RO_callv1, RO_callv2, RO_append, RO_load, RO_callf0, RO_callf1, RO_callf2, RO_callf3, RO_callf4, RO_guard, RO_nil, put_fr, opd_t, opd_c, upd_eq', upd_ne, ne_eq, ↓OM_some, ↓OM_none, ↓CM_bool, ↓CB_true, ↓CB_false, ↓GM_t, ↓GM_f, ↓GM_tup, OM_some, OM_none, CM_bool, CB_true, CB_false, GM_t, GM_f, GM_tup, reduceIte, reduceCtorEq, Nat.reduceLT, Nat.reduceEqDiff, not_false_eq_true, not_true_eq_false, bin_add, bin_sub, bin_mul, bin_eql, bin_neq, bin_lss, bin_leq, bin_gtr, bin_geq, bin_seql, bin_sneq, binb_eql, binb_neq, un_not, un_neg, pick_t, pick_f, mn_2, mx_2, len_nils, len_fs, len_row, eqa_2, bld2_int, lit2_int, decide_true, decide_false, Bool.not_true, Bool.not_false, Bool.false_eq_true, List.length_map, List.getD_cons_zero, List.getD_cons_succ, List.getD_nil, c10_r0, c10_r1, hu.cells, r1, d1, FinQ_ret, res_t]
    obtain ⟨ver, c, hq, hrd⟩ := d2.rd
    obtain ⟨x, x1, x2⟩ := leave2_any (lb := H.length) (h0 := H) (h := q.2) (v := q.1) (es := (woL l to).map encP) (.inr (.inr ⟨_, ver, c, by simp, hq, hrd⟩)) (underP _)
    exact ⟨_, x1, rfl, x2⟩
end Go.Proofs.Tryt17A
end
