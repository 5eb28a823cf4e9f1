import Derived.Test.YtlnnhldhhaooiaaBf

set_option linter.unusedVariables false
set_option linter.unusedSimpArgs false
set_option linter.unusedSectionVars false
set_option linter.unnecessarySimpa false

section
namespace Go.Proofs.Tryt17A
open Go Go.AM
set_option linter.unusedSimpArgs false
set_option linter.unusedVariables false

section
variable {T : Tab} {cx : Ctx} {Q : Ex → St → Prop} {K : List Kont} {b0 : Nat} {fr : List AV} {ds : List Nat} {h : Heap} {d : Nat} {x y : Opd} {rest : List AO} {st : St}

theorem RK_loop {c : AC} : RK T cx Q (.loop c) K st ↔ RK T cx Q c (.seq (.loop c) :: K) st := by
  unfold RK R
  rw [ev_eq]
  simp only [evalF]
  cases h : ev T cx c st with
  | none => simp [OM]
  | some x =>
    obtain ⟨ex, st1⟩ := x
    cases ex <;> rfl

/-- What an append of so many zeros to nil leaves. -/
def azM (h : Heap) (zero : List AV) (bytes : Nat) (s n : AV) : Option (AV × Heap) :=
  match s, n with
  | .nils, .int _ k => if 0 < k ∧ k * bytes ≤ maxLn ∧ k.toNat * bytes ≤ maxLn ∧ k.toNat ≤ maxLn then some (.row h.length 0 0 k.toNat k.toNat zero.length, h ++ [.cells 0 (List.replicate k.toNat zero)]) else none
  | _, _ => none
theorem RO_appz {zero : List AV} {bytes : Nat} {r : AV × Heap} (hr : azM h zero bytes (opd fr x) (opd fr y) = some r) : RO T cx Q K b0 (⟨some d, .appz zero bytes x y, none⟩ :: rest) ⟨fr, ds, h⟩ ↔ RO T cx Q K b0 rest ⟨fr.set d r.1, ds, r.2⟩ := by
  unfold azM at hr
  split at hr
  · rename_i k0 k e1 e2
    split at hr
    · rename_i hc
      injection hr with hr
      subst hr
      rw [RO_act (a := .appnew zero.length bytes .nils [] (.els (List.replicate k.toNat zero))) (by simp only [act, e1, e2]; rw [if_pos ⟨hc.1, hc.2.1⟩])]
      simp only [doAct, rdSrc, Option.bind_eq_bind, Option.bind_some, List.length_nil, List.length_replicate, Nat.zero_add, List.nil_append]
      rw [if_pos ⟨hc.2.2.1, hc.2.2.2⟩, if_neg (by omega)]
      rfl
    · cases hr
  · cases hr
end

/-- A slice of one's own, to which one may append. -/
def OwE (z wp : Nat) (h : Heap) (v : AV) (es : List (List AV)) : Prop := (v = .nils ∧ es = []) ∨ v = .fs es true ∨ ∃ i, Ow z wp h v es i

theorem ap_fs {wp : Nat} {h : Heap} {z bytes : Nat} {x : AV} {es new : List (List AV)} (hz : ∀ e ∈ es, e.length = z) (hx : Sl z h x new) (h1 : (es.length + new.length) * bytes ≤ maxLn) (h2 : es.length + new.length ≤ maxLn) :
    apM wp h z bytes (.fs es true) x = if new = [] then some (.fs es true, h) else some (.row h.length 0 0 (es.length + new.length) (es.length + new.length) z, h ++ [.cells 0 (es ++ new)]) := by
  obtain ⟨sr, e1, e2⟩ := hx.src
  have ha : es.all (fun e => e.length == z) = true := by
    rw [List.all_eq_true]; intro e he; simp [hz e he]
  simp only [apM, act, opd, e1, ha, if_true, doAct, e2, Option.bind_eq_bind, Option.bind_some]
  rw [if_pos ⟨h1, h2⟩]
  cases new with
  | nil => simp
  | cons a as => simp

theorem Ow.cells {z wp : Nat} {h : Heap} {v : AV} {es : List (List AV)} {i : Nat} (ho : Ow z wp h v es i) : v.cells = some [v] ∧ v.one = true := by
  obtain ⟨ver, c, all, rfl, _⟩ := ho.row
  exact ⟨rfl, rfl⟩

theorem OwE.cells {z wp : Nat} {h : Heap} {v : AV} {es : List (List AV)} (ho : OwE z wp h v es) : v.cells = some [v] ∧ v.one = true := by
  rcases ho with ⟨rfl, _⟩ | rfl | ⟨i, ho⟩
  · exact ⟨rfl, rfl⟩
  · exact ⟨rfl, rfl⟩
  · exact Ow.cells ho

theorem OwE.of {z wp : Nat} {h h' : Heap} {v : AV} {es : List (List AV)} (ho : OwE z wp h v es) (he : ∀ k, wp ≤ k → k < h.length → h'[k]? = h[k]?) : OwE z wp h' v es := by
  rcases ho with h1 | h1 | ⟨i, ho⟩
  · exact .inl h1
  · exact .inr (.inl h1)
  · exact .inr (.inr ⟨i, Go.AM.Ow.of ho (he i ho.wp (Go.AM.Ow.lt ho))⟩)

theorem OwE.sl {z wp : Nat} {h : Heap} {v : AV} {es : List (List AV)} (ho : OwE z wp h v es) (hz : ∀ e ∈ es, e.length = z) : Sl z h v es := by
  rcases ho with ⟨rfl, rfl⟩ | rfl | ⟨i, ho⟩
  · exact .nils
  · exact .fs hz
  · exact Go.AM.Ow.sl ho

theorem ap_any {wp : Nat} {h : Heap} {z bytes : Nat} {s x : AV} {es new : List (List AV)} (ho : OwE z wp h s es) (hwp : wp ≤ h.length) (hes : ∀ e ∈ es, e.length = z) (hx : Sl z h x new) (hz : ∀ e ∈ new, e.length = z) (h1 : (es.length + new.length) * bytes ≤ maxLn) (h2 : es.length + new.length ≤ maxLn) :
    ∃ v h', apM wp h z bytes s x = some (v, h') ∧ OwE z wp h' v (es ++ new) ∧ h.length ≤ h'.length ∧ ∀ k, k < wp → h'[k]? = h[k]? := by
  have hall : ∀ e ∈ es ++ new, e.length = z := fun e he => (List.mem_append.1 he).elim (hes e) (hz e)
  rcases ho with ⟨rfl, rfl⟩ | rfl | ⟨i, ho⟩
  · have := ap_new (wp := wp) (bytes := bytes) (s := .nils) (.inl rfl) hx (by simpa using h1) (by simpa using h2)
    by_cases hn : new = []
    · rw [if_pos hn] at this
      exact ⟨_, _, this, .inl ⟨rfl, by simpa using hn⟩, Nat.le_refl _, fun _ _ => rfl⟩
    · rw [if_neg hn] at this
      exact ⟨_, _, this, .inr (.inr ⟨_, by simpa using Own3.ow (H := h) (es := new) hwp hz⟩), by simp, fun k hk => List.getElem?_append_left (by omega)⟩
  · have := ap_fs (wp := wp) (bytes := bytes) hes hx h1 h2
    by_cases hn : new = []
    · rw [if_pos hn] at this
      exact ⟨_, _, this, .inr (.inl (by simp [hn])), Nat.le_refl _, fun _ _ => rfl⟩
    · rw [if_neg hn] at this
      exact ⟨_, _, this, .inr (.inr ⟨_, by simpa using Own3.ow (H := h) (es := es ++ new) hwp hall⟩), by simp, fun k hk => List.getElem?_append_left (by omega)⟩
  · obtain ⟨v, bx, a1, a2⟩ := ap_own (bytes := bytes) ho hx hz h1 h2
    exact ⟨_, _, a1, .inr (.inr ⟨i, a2⟩), by simp, fun k hk => by rw [List.getElem?_set_ne (by have := ho.wp; omega)]⟩

/-- As OwE: nil, or a row. -/
def OwN (z wp : Nat) (h : Heap) (v : AV) (es : List (List AV)) : Prop := (v = .nils ∧ es = []) ∨ ∃ i, Ow z wp h v es i
theorem ap_n {wp : Nat} {h : Heap} {z bytes : Nat} {s x : AV} {es new : List (List AV)} (ho : OwN z wp h s es) (hwp : wp ≤ h.length) (hes : ∀ e ∈ es, e.length = z) (hx : Sl z h x new) (hz : ∀ e ∈ new, e.length = z) (h1 : (es.length + new.length) * bytes ≤ maxLn) (h2 : es.length + new.length ≤ maxLn) :
    ∃ v h', apM wp h z bytes s x = some (v, h') ∧ OwN z wp h' v (es ++ new) ∧ h.length ≤ h'.length ∧ ∀ k, k < wp → h'[k]? = h[k]? := by
  rcases ho with ⟨rfl, rfl⟩ | ⟨i, ho⟩
  · have := ap_new (wp := wp) (bytes := bytes) (s := .nils) (.inl rfl) hx (by simpa using h1) (by simpa using h2)
    by_cases hn : new = []
    · rw [if_pos hn] at this
      exact ⟨_, _, this, .inl ⟨rfl, by simpa using hn⟩, Nat.le_refl _, fun _ _ => rfl⟩
    · rw [if_neg hn] at this
      exact ⟨_, _, this, .inr ⟨_, by simpa using Own3.ow (H := h) (es := new) hwp hz⟩, by simp, fun k hk => List.getElem?_append_left (by omega)⟩
  · obtain ⟨v, bx, a1, a2⟩ := ap_own (bytes := bytes) ho hx hz h1 h2
    exact ⟨_, _, a1, .inr ⟨i, a2⟩, by simp, fun k hk => by rw [List.getElem?_set_ne (by have := ho.wp; omega)]⟩

variable {cx : Ctx} {H : Heap}

theorem f43_spec {n : Nat} (hn : n * 16 ≤ maxLn) (hw : cx.wp ≤ H.length) : ∃ r, callF (T prim23 prim36) (ev (T prim23 prim36)) cx 43 [.nils, .int .i64 n] H = some r ∧ (r = (.nils, H) ∨ r = (.row H.length 0 0 0 0 2, H ++ [.cells 0 []])) := by
  refine callF_codeE (a := a43) rfl hw (Nat.le_of_ble_eq_true rfl) ?_
  simp only [a43, c43, Ctx.enter]
  have e1 : ((n : Int) < 0) = False := eq_false (by omega)
  have ec : capM .nils = some (.int .i64 0) := by simp [capM]
  have e2 : (0 : Int) - 0 = 0 := by omega
  have e3 : (n : Int) - 0 = n := by omega
  have w0 : IntKind.i64.wrap (n : Int) = n := by unfold maxLn at hn; exact wrap64 (by omega) (by omega)
  have w00 : IntKind.i64.wrap 0 = 0 := wrap64 (by omega) (by omega)
  by_cases h0 : n = 0
  · subst h0
    have e5 : ((0 : Int) < ((0 : Nat) : Int)) = False := eq_false (by omega)
    simp (disch := omega) only [RK_seq, RK_region0, RK_block, RK_cond, RK_skip, RK_ret, RK_exit, RE_seq, RE_seq_exit, RE_seq_ret, RE_block, RE_block_ret, RE_block_exit, RE_nil, RO_mv, RO_len, RO_bin, RO_binb, RO_un, RO_pick, RO_ixs, RO_fld, RO_part, RO_ixa, RO_ixv, RO_eqa, RO_eqn, RO_mx2, RO_mn2, RO_build2, RO_lit0, RO_lit1, RO_lit2, RO_mkfn0, RO_mkfn1, RO_cap, RO_slice_l, RO_slice_h, RO_slice_lh, RO_box, RO_alloc, RO_store, RO_clear, RO_callv0, RO_callv1, RO_callv2, RO_append, RO_load, RO_callf0, RO_callf1, RO_callf2, RO_callf3, RO_callf4, RO_guard, RO_nil, put_fr, opd_t, opd_c, upd_eq', upd_ne, ne_eq, ↓OM_some, ↓OM_none, ↓CM_bool, ↓CB_true, ↓CB_false, ↓GM_t, ↓GM_f, ↓GM_tup, OM_some, OM_none, CM_bool, CB_true, CB_false, GM_t, GM_f, GM_tup, reduceIte, reduceCtorEq, Nat.reduceLT, Nat.reduceEqDiff, not_false_eq_true, not_true_eq_false, bin_add, bin_sub, bin_mul, bin_eql, bin_neq, bin_lss, bin_leq, bin_gtr, bin_geq, bin_seql, bin_sneq, binb_eql, binb_neq, un_not, un_neg, pick_t, pick_f, mn_2, mx_2, len_nils, len_fs, len_row, eqa_2, bld2_int, lit2_int, decide_true, decide_false, Bool.not_true, Bool.not_false, Bool.false_eq_true, List.length_map, List.getD_cons_zero, List.getD_cons_succ, List.getD_nil, c43_r0, c43_r1, c43_r3, c43_r4, c43_r6, e1, ec, len_nils, e2, e3, e5, w0, w00, FinQ_ret, res_t]
    exact ⟨(.nils, H), leave3 rfl (fun _ _ _ _ _ _ => by simp), .inl rfl⟩
  · have e4 : ((0 : Int) < (n : Int)) = True := eq_true (by omega)
    have s1 : slcM 2 .nils none (some (.int .i64 0)) none = some .nils := by simp [slcM, cut, optNat, asNat]
    simp (disch := omega) only [RK_seq, RK_region0, RK_block, RK_cond, RK_skip, RK_ret, RK_exit, RE_seq, RE_seq_exit, RE_seq_ret, RE_block, RE_block_ret, RE_block_exit, RE_nil, RO_mv, RO_len, RO_bin, RO_binb, RO_un, RO_pick, RO_ixs, RO_fld, RO_part, RO_ixa, RO_ixv, RO_eqa, RO_eqn, RO_mx2, RO_mn2, RO_build2, RO_lit0, RO_lit1, RO_lit2, RO_mkfn0, RO_mkfn1, RO_cap, RO_slice_l, RO_slice_h, RO_slice_lh, RO_box, RO_alloc, RO_store, RO_clear, RO_callv0, RO_callv1, RO_callv2, RO_append, RO_load, RO_callf0, RO_callf1, RO_callf2, RO_callf3, RO_callf4, RO_guard, RO_nil, put_fr, opd_t, opd_c, upd_eq', upd_ne, ne_eq, ↓OM_some, ↓OM_none, ↓CM_bool, ↓CB_true, ↓CB_false, ↓GM_t, ↓GM_f, ↓GM_tup, OM_some, OM_none, CM_bool, CB_true, CB_false, GM_t, GM_f, GM_tup, reduceIte, reduceCtorEq, Nat.reduceLT, Nat.reduceEqDiff, not_false_eq_true, not_true_eq_false, bin_add, bin_sub, bin_mul, bin_eql, bin_neq, bin_lss, bin_leq, bin_gtr, bin_geq, bin_seql, bin_sneq, binb_eql, binb_neq, un_not, un_neg, pick_t, pick_f, mn_2, mx_2, len_nils, len_fs, len_row, eqa_2, bld2_int, lit2_int, decide_true, decide_false, Bool.not_true, Bool.not_false, Bool.false_eq_true, List.length_map, List.getD_cons_zero, List.getD_cons_succ, List.getD_nil, c43_r0, c43_r1, c43_r3, c43_r4, e1, ec, e2, e3, e4, w0, w00, c43_r5, s1]
    rw [RO_appz (r := (.row H.length 0 0 n n 2, H ++ [.cells 0 (List.replicate n [.int .i64 0, .int .i64 0])])) (by
      simp (disch := omega) only [RK_seq, RK_region0, RK_block, RK_cond, RK_skip, RK_ret, RK_exit, RE_seq, RE_seq_exit, RE_seq_ret, RE_block, RE_block_ret, RE_block_exit, RE_nil, RO_mv, RO_len, RO_bin, RO_binb, RO_un, RO_pick, RO_ixs, RO_fld, RO_part, RO_ixa, RO_ixv, RO_eqa, RO_eqn, RO_mx2, RO_mn2, RO_build2, RO_lit0, RO_lit1, RO_lit2, RO_mkfn0, RO_mkfn1, RO_cap, RO_slice_l, RO_slice_h, RO_slice_lh, RO_box, RO_alloc, RO_store, RO_clear, RO_callv0, RO_callv1, RO_callv2, RO_append, RO_load, RO_callf0, RO_callf1, RO_callf2, RO_callf3, RO_callf4, RO_guard, RO_nil, put_fr, opd_t, opd_c, upd_eq', upd_ne, ne_eq, ↓OM_some, ↓OM_none, ↓CM_bool, ↓CB_true, ↓CB_false, ↓GM_t, ↓GM_f, ↓GM_tup, OM_some, OM_none, CM_bool, CB_true, CB_false, GM_t, GM_f, GM_tup, reduceIte, reduceCtorEq, Nat.reduceLT, Nat.reduceEqDiff, not_false_eq_true, not_true_eq_false, bin_add, bin_sub, bin_mul, bin_eql, bin_neq, bin_lss, bin_leq, bin_gtr, bin_geq, bin_seql, bin_sneq, binb_eql, binb_neq, un_not, un_neg, pick_t, pick_f, mn_2, mx_2, len_nils, len_fs, len_row, eqa_2, bld2_int, lit2_int, decide_true, decide_false, Bool.not_true, Bool.not_false, Bool.false_eq_true, List.length_map, List.getD_cons_zero, List.getD_cons_succ, List.getD_nil, azM]
      unfold maxLn at hn
      rw [if_pos ⟨by omega, by unfold maxLn; omega, by unfold maxLn; simp; omega, by unfold maxLn; simp; omega⟩]
      simp)]
    have s2 := cut_row0 (z := 2) (i := H.length) (ver := 0) (n := n) (c := n) (k := 0) (by omega) (by omega)
    rw [show ((0 : Nat) : Int) = 0 from rfl] at s2
    simp (disch := omega) only [RK_seq, RK_region0, RK_block, RK_cond, RK_skip, RK_ret, RK_exit, RE_seq, RE_seq_exit, RE_seq_ret, RE_block, RE_block_ret, RE_block_exit, RE_nil, RO_mv, RO_len, RO_bin, RO_binb, RO_un, RO_pick, RO_ixs, RO_fld, RO_part, RO_ixa, RO_ixv, RO_eqa, RO_eqn, RO_mx2, RO_mn2, RO_build2, RO_lit0, RO_lit1, RO_lit2, RO_mkfn0, RO_mkfn1, RO_cap, RO_slice_l, RO_slice_h, RO_slice_lh, RO_box, RO_alloc, RO_store, RO_clear, RO_callv0, RO_callv1, RO_callv2, RO_append, RO_load, RO_callf0, RO_callf1, RO_callf2, RO_callf3, RO_callf4, RO_guard, RO_nil, put_fr, opd_t, opd_c, upd_eq', upd_ne, ne_eq, ↓OM_some, ↓OM_none, ↓CM_bool, ↓CB_true, ↓CB_false, ↓GM_t, ↓GM_f, ↓GM_tup, OM_some, OM_none, CM_bool, CB_true, CB_false, GM_t, GM_f, GM_tup, reduceIte, reduceCtorEq, Nat.reduceLT, Nat.reduceEqDiff, not_false_eq_true, not_true_eq_false, bin_add, bin_sub, bin_mul, bin_eql, bin_neq, bin_lss, bin_leq, bin_gtr, bin_geq, bin_seql, bin_sneq, binb_eql, binb_neq, un_not, un_neg, pick_t, pick_f, mn_2, mx_2, len_nils, len_fs, len_row, eqa_2, bld2_int, lit2_int, decide_true, decide_false, Bool.not_true, Bool.not_false, Bool.false_eq_true, List.length_map, List.getD_cons_zero, List.getD_cons_succ, List.getD_nil, s2, c43_r6, FinQ_ret, res_t]
    refine ⟨_, leave3_row (es := []) (Nat.le_refl _) (by simp [rdEls, rdRow]) (by simp), .inr rfl⟩

theorem f28_spec {la lb : List (Int × Int)} {a b : AV} (ha : Al 2 H a (la.map encP)) (hb : Al 2 H b (lb.map encP)) (hl : (la.length + lb.length + 1) * 16 ≤ maxLn) (hw : cx.wp ≤ H.length) :
    ∃ r, callF (T prim23 prim36) (ev (T prim23 prim36)) cx 28 [.fs [[a], [b]] true] H = some r ∧ Own3 2 H ((la ++ lb).map encP) r := by
  refine callF_codeE (a := a28) rfl hw (Nat.le_of_ble_eq_true rfl) ?_
  simp only [a28, c28, Ctx.enter]
  unfold maxLn at hl
  have i0 : ixsM 1 (.fs [[a], [b]] true) (.int .i64 0) = some (.fptr [a]) := by simp [ixsM, act, opd]
  have i1 : ixsM 1 (.fs [[a], [b]] true) (.int .i64 1) = some (.fptr [b]) := by simp [ixsM, act, opd]
  have l0 : ∀ h x, ldM h false 1 (.fptr [x]) = some x := fun h x => by simp [ldM, partOf]
  have x1 : ((0 : Int) < 2) = True := by simp
  have x2 : ((1 : Int) < 2) = True := by simp
  have x3 : ((2 : Int) < 2) = False := by simp
  have x4 : (0 : Int) + 1 = 1 := rfl
  have x5 : (1 : Int) + 1 = 2 := rfl
  have x6 : (0 : Int) + (la.length : Int) = la.length := by omega
  have x7 : ((la.length : Int) < 0) = False := eq_false (by omega)
  have x8 : (((la.length : Int) + (lb.length : Int)) < 0) = False := eq_false (by omega)
  have x9 : ((2 : Nat) : Int) = 2 := rfl
  have lab : (la.length : Int) + (lb.length : Int) = ((la.length + lb.length : Nat) : Int) := by omega
  have w1 : IntKind.i64.wrap (0 + 1) = 1 := wrap64 (by omega) (by omega)
  have w2 : IntKind.i64.wrap (1 + 1) = 2 := wrap64 (by omega) (by omega)
  have w3 : IntKind.i64.wrap (0 + (la.length : Int)) = la.length := by rw [wrap64 (by omega) (by omega)]; omega
  have w4 : IntKind.i64.wrap ((la.length : Int) + (lb.length : Int)) = ((la.length + lb.length : Nat) : Int) := by rw [wrap64 (by omega) (by omega)]; omega
  have x8' : (((la.length + lb.length : Nat) : Int) < 0) = False := eq_false (by omega)
  have ln2 : lenM (.fs [[a], [b]] true) = some (.int .i64 2) := by simp [lenM]
  have la' := ha.sl.len
  have lb' := hb.sl.len
  rw [List.length_map] at la' lb'
  simp (disch := omega) only [RK_seq, RK_region0, RK_block, RK_cond, RK_skip, RK_ret, RK_exit, RE_seq, RE_seq_exit, RE_seq_ret, RE_block, RE_block_ret, RE_block_exit, RE_nil, RO_mv, RO_len, RO_bin, RO_binb, RO_un, RO_pick, RO_ixs, RO_fld, RO_part, RO_ixa, RO_ixv, RO_eqa, RO_eqn, RO_mx2, RO_mn2, RO_build2, RO_lit0, RO_lit1, RO_lit2, RO_mkfn0, RO_mkfn1, RO_cap, RO_slice_l, RO_slice_h, RO_slice_lh, RO_box, RO_alloc, RO_store, RO_clear, RO_callv0, RO_callv1, RO_callv2, RO_append, RO_load, RO_callf0, RO_callf1, RO_callf2, RO_callf3, RO_callf4, RO_guard, RO_nil, put_fr, opd_t, opd_c, upd_eq', upd_ne, ne_eq, ↓OM_some, ↓OM_none, ↓CM_bool, ↓CB_true, ↓CB_false, ↓GM_t, ↓GM_f, ↓GM_tup, OM_some, OM_none, CM_bool, CB_true, CB_false, GM_t, GM_f, GM_tup, reduceIte, reduceCtorEq, Nat.reduceLT, Nat.reduceEqDiff, not_false_eq_true, not_true_eq_false, bin_add, bin_sub, bin_mul, bin_eql, bin_neq, bin_lss, bin_leq, bin_gtr, bin_geq, bin_seql, bin_sneq, binb_eql, binb_neq, un_not, un_neg, pick_t, pick_f, mn_2, mx_2, len_nils, len_fs, len_row, eqa_2, bld2_int, lit2_int, decide_true, decide_false, Bool.not_true, Bool.not_false, Bool.false_eq_true, List.length_map, List.getD_cons_zero, List.getD_cons_succ, List.getD_nil, c28_r0, c28_r1, c28_r2, ln2]
  rw [c28_l0, RK_loop, c28_lb0]
  simp (disch := omega) only [RK_seq, RK_region0, RK_block, RK_cond, RK_skip, RK_ret, RK_exit, RE_seq, RE_seq_exit, RE_seq_ret, RE_block, RE_block_ret, RE_block_exit, RE_nil, RO_mv, RO_len, RO_bin, RO_binb, RO_un, RO_pick, RO_ixs, RO_fld, RO_part, RO_ixa, RO_ixv, RO_eqa, RO_eqn, RO_mx2, RO_mn2, RO_build2, RO_lit0, RO_lit1, RO_lit2, RO_mkfn0, RO_mkfn1, RO_cap, RO_slice_l, RO_slice_h, RO_slice_lh, RO_box, RO_alloc, RO_store, RO_clear, RO_callv0, RO_callv1, RO_callv2, RO_append, RO_load, RO_callf0, RO_callf1, RO_callf2, RO_callf3, RO_callf4, RO_guard, RO_nil, put_fr, opd_t, opd_c, upd_eq', upd_ne, ne_eq, ↓OM_some, ↓OM_none, ↓CM_bool, ↓CB_true, ↓CB_false, ↓GM_t, ↓GM_f, ↓GM_tup, OM_some, OM_none, CM_bool, CB_true, CB_false, GM_t, GM_f, GM_tup, reduceIte, reduceCtorEq, Nat.reduceLT, Nat.reduceEqDiff, not_false_eq_true, not_true_eq_false, bin_add, bin_sub, bin_mul, bin_eql, bin_neq, bin_lss, bin_leq, bin_gtr, bin_geq, bin_seql, bin_sneq, binb_eql, binb_neq, un_not, un_neg, pick_t, pick_f, mn_2, mx_2, len_nils, len_fs, len_row, eqa_2, bld2_int, lit2_int, decide_true, decide_false, Bool.not_true, Bool.not_false, Bool.false_eq_true, List.length_map, List.getD_cons_zero, List.getD_cons_succ, List.getD_nil, c28_r3, c28_r4, c28_r5, c28_r6, c28_r8, i0, l0, la', x1, x7, w1, w3]
  rw [RK_loop]
  simp (disch := omega) only [RK_seq, RK_region0, RK_block, RK_cond, RK_skip, RK_ret, RK_exit, RE_seq, RE_seq_exit, RE_seq_ret, RE_block, RE_block_ret, RE_block_exit, RE_nil, RO_mv, RO_len, RO_bin, RO_binb, RO_un, RO_pick, RO_ixs, RO_fld, RO_part, RO_ixa, RO_ixv, RO_eqa, RO_eqn, RO_mx2, RO_mn2, RO_build2, RO_lit0, RO_lit1, RO_lit2, RO_mkfn0, RO_mkfn1, RO_cap, RO_slice_l, RO_slice_h, RO_slice_lh, RO_box, RO_alloc, RO_store, RO_clear, RO_callv0, RO_callv1, RO_callv2, RO_append, RO_load, RO_callf0, RO_callf1, RO_callf2, RO_callf3, RO_callf4, RO_guard, RO_nil, put_fr, opd_t, opd_c, upd_eq', upd_ne, ne_eq, ↓OM_some, ↓OM_none, ↓CM_bool, ↓CB_true, ↓CB_false, ↓GM_t, ↓GM_f, ↓GM_tup, OM_some, OM_none, CM_bool, CB_true, CB_false, GM_t, GM_f, GM_tup, reduceIte, reduceCtorEq, Nat.reduceLT, Nat.reduceEqDiff, not_false_eq_true, not_true_eq_false, bin_add, bin_sub, bin_mul, bin_eql, bin_neq, bin_lss, bin_leq, bin_gtr, bin_geq, bin_seql, bin_sneq, binb_eql, binb_neq, un_not, un_neg, pick_t, pick_f, mn_2, mx_2, len_nils, len_fs, len_row, eqa_2, bld2_int, lit2_int, decide_true, decide_false, Bool.not_true, Bool.not_false, Bool.false_eq_true, List.length_map, List.getD_cons_zero, List.getD_cons_succ, List.getD_nil, c28_r3, c28_r4, c28_r5, c28_r6, c28_r8, i1, l0, lb', x2, x8', w2, w4]
  rw [RK_loop]
  simp (disch := omega) only [RK_seq, RK_region0, RK_block, RK_cond, RK_skip, RK_ret, RK_exit, RE_seq, RE_seq_exit, RE_seq_ret, RE_block, RE_block_ret, RE_block_exit, RE_nil, RO_mv, RO_len, RO_bin, RO_binb, RO_un, RO_pick, RO_ixs, RO_fld, RO_part, RO_ixa, RO_ixv, RO_eqa, RO_eqn, RO_mx2, RO_mn2, RO_build2, RO_lit0, RO_lit1, RO_lit2, RO_mkfn0, RO_mkfn1, RO_cap, RO_slice_l, RO_slice_h, RO_slice_lh, RO_box, RO_alloc, RO_store, RO_clear, RO_callv0, RO_callv1, RO_callv2, RO_append, RO_load, RO_callf0, RO_callf1, RO_callf2, RO_callf3, RO_callf4, RO_guard, RO_nil, put_fr, opd_t, opd_c, upd_eq', upd_ne, ne_eq, ↓OM_some, ↓OM_none, ↓CM_bool, ↓CB_true, ↓CB_false, ↓GM_t, ↓GM_f, ↓GM_tup, OM_some, OM_none, CM_bool, CB_true, CB_false, GM_t, GM_f, GM_tup, reduceIte, reduceCtorEq, Nat.reduceLT, Nat.reduceEqDiff, not_false_eq_true, not_true_eq_false, bin_add, bin_sub, bin_mul, bin_eql, bin_neq, bin_lss, bin_leq, bin_gtr, bin_geq, bin_seql, bin_sneq, binb_eql, binb_neq, un_not, un_neg, pick_t, pick_f, mn_2, mx_2, len_nils, len_fs, len_row, eqa_2, bld2_int, lit2_int, decide_true, decide_false, Bool.not_true, Bool.not_false, Bool.false_eq_true, List.length_map, List.getD_cons_zero, List.getD_cons_succ, List.getD_nil, c28_r3, x3]
  obtain ⟨r, g1, g2⟩ := f43_spec (cx := ⟨H.length, none⟩) (H := H) (n := la.length + lb.length) (by unfold maxLn; omega) (Nat.le_refl _)
  have hr : H.length ≤ r.2.length := by rcases g2 with rfl | rfl <;> simp
  have hk : ∀ k, k < H.length → r.2[k]? = H[k]? := fun k hk => by rcases g2 with rfl | rfl <;> simp [List.getElem?_append_left hk]
  have o0 : OwN 2 H.length r.2 r.1 [] := by
    rcases g2 with rfl | rfl
    · exact .inl ⟨rfl, rfl⟩
    · exact .inr ⟨_, Own3.ow (es := []) (Nat.le_refl _) (by simp)⟩
  obtain ⟨v1, h1, p1, p2, p3, p4⟩ := ap_n (bytes := 16) o0 hr (by simp) (ha.2 r.2 hr hk) (lensP la) (by simp; unfold maxLn; omega) (by simp; unfold maxLn; omega)
  obtain ⟨v2, h2, q1, q2, q3, q4⟩ := ap_n (bytes := 16) p2 (by omega) (by simpa using lensP la) (hb.2 h1 (by omega) fun k hk' => by rw [p4 k hk', hk k hk']) (lensP lb) (by simp; unfold maxLn; omega) (by simp; unfold maxLn; omega)
  simp (disch := omega) only [RK_seq, RK_region0, RK_block, RK_cond, RK_skip, RK_ret, RK_exit, RE_seq, RE_seq_exit, RE_seq_ret, RE_block, RE_block_ret, RE_block_exit, RE_nil, RO_mv, RO_len, RO_bin, RO_binb, RO_un, RO_pick, RO_ixs, RO_fld, RO_part, RO_ixa, RO_ixv, RO_eqa, RO_eqn, RO_mx2, RO_mn2, RO_build2, RO_lit0, RO_lit1, RO_lit2, RO_mkfn0, RO_mkfn1, RO_cap, RO_slice_l, RO_slice_h, RO_slice_lh, RO_box, RO_alloc, RO_store, RO_clear, RO_callv0, RO_callv1, RO_callv2, RO_append, RO_load, RO_callf0, RO_callf1, RO_callf2, RO_callf3, RO_callf4, RO_guard, RO_nil, put_fr, opd_t, opd_c, upd_eq', upd_ne, ne_eq, ↓OM_some, ↓OM_none, ↓CM_bool, ↓CB_true, ↓CB_false, ↓GM_t, ↓GM_f, ↓GM_tup, OM_some, OM_none, CM_bool, CB_true, CB_false, GM_t, GM_f, GM_tup, reduceIte, reduceCtorEq, Nat.reduceLT, Nat.reduceEqDiff, not_false_eq_true, not_true_eq_false, bin_add, bin_sub, bin_mul, bin_eql, bin_neq, bin_lss, bin_leq, bin_gtr, bin_geq, bin_seql, bin_sneq, binb_eql, binb_neq, un_not, un_neg, pick_t, pick_f, mn_2, mx_2, len_nils, len_fs, len_row, eqa_2, bld2_int, lit2_int, decide_true, decide_false, Bool.not_true, Bool.not_false, Bool.false_eq_true, List.length_map, List.getD_cons_zero, List.getD_cons_succ, List.getD_nil, c28_r9, c28_r10, g1, ln2]
  rw [c28_l1, RK_loop, c28_lb1]
  simp (disch := omega) only [RK_seq, RK_region0, RK_block, RK_cond, RK_skip, RK_ret, RK_exit, RE_seq, RE_seq_exit, RE_seq_ret, RE_block, RE_block_ret, RE_block_exit, RE_nil, RO_mv, RO_len, RO_bin, RO_binb, RO_un, RO_pick, RO_ixs, RO_fld, RO_part, RO_ixa, RO_ixv, RO_eqa, RO_eqn, RO_mx2, RO_mn2, RO_build2, RO_lit0, RO_lit1, RO_lit2, RO_mkfn0, RO_mkfn1, RO_cap, RO_slice_l, RO_slice_h, RO_slice_lh, RO_box, RO_alloc, RO_store, RO_clear, RO_callv0, RO_callv1, RO_callv2, RO_append, RO_load, RO_callf0, RO_callf1, RO_callf2, RO_callf3, RO_callf4, RO_guard, RO_nil, put_fr, opd_t, opd_c, upd_eq', upd_ne, ne_eq, ↓OM_some, ↓OM_none, ↓CM_bool, ↓CB_true, ↓CB_false, ↓GM_t, ↓GM_f, ↓GM_tup, OM_some, OM_none, CM_bool, CB_true, CB_false, GM_t, GM_f, GM_tup, reduceIte, reduceCtorEq, Nat.reduceLT, Nat.reduceEqDiff, not_false_eq_true, not_true_eq_false, bin_add, bin_sub, bin_mul, bin_eql, bin_neq, bin_lss, bin_leq, bin_gtr, bin_geq, bin_seql, bin_sneq, binb_eql, binb_neq, un_not, un_neg, pick_t, pick_f, mn_2, mx_2, len_nils, len_fs, len_row, eqa_2, bld2_int, lit2_int, decide_true, decide_false, Bool.not_true, Bool.not_false, Bool.false_eq_true, List.length_map, List.getD_cons_zero, List.getD_cons_succ, List.getD_nil, c28_r11, c28_r12, c28_r13, c28_r14, i0, l0, x1, p1, w1]
  rw [RK_loop]
  simp (disch := omega) only [RK_seq, RK_region0, RK_block, RK_cond, RK_skip, RK_ret, RK_exit, RE_seq, RE_seq_exit, RE_seq_ret, RE_block, RE_block_ret, RE_block_exit, RE_nil, RO_mv, RO_len, RO_bin, RO_binb, RO_un, RO_pick, RO_ixs, RO_fld, RO_part, RO_ixa, RO_ixv, RO_eqa, RO_eqn, RO_mx2, RO_mn2, RO_build2, RO_lit0, RO_lit1, RO_lit2, RO_mkfn0, RO_mkfn1, RO_cap, RO_slice_l, RO_slice_h, RO_slice_lh, RO_box, RO_alloc, RO_store, RO_clear, RO_callv0, RO_callv1, RO_callv2, RO_append, RO_load, RO_callf0, RO_callf1, RO_callf2, RO_callf3, RO_callf4, RO_guard, RO_nil, put_fr, opd_t, opd_c, upd_eq', upd_ne, ne_eq, ↓OM_some, ↓OM_none, ↓CM_bool, ↓CB_true, ↓CB_false, ↓GM_t, ↓GM_f, ↓GM_tup, OM_some, OM_none, CM_bool, CB_true, CB_false, GM_t, GM_f, GM_tup, reduceIte, reduceCtorEq, Nat.reduceLT, Nat.reduceEqDiff, not_false_eq_true, not_true_eq_false, bin_add, bin_sub, bin_mul, bin_eql, bin_neq, bin_lss, bin_leq, bin_gtr, bin_geq, bin_seql, bin_sneq, binb_eql, binb_neq, un_not, un_neg, pick_t, pick_f, mn_2, mx_2, len_nils, len_fs, len_row, eqa_2, bld2_int, lit2_int, decide_true, decide_false, Bool.not_true, Bool.not_false, Bool.false_eq_true, List.length_map, List.getD_cons_zero, List.getD_cons_succ, List.getD_nil, c28_r11, c28_r12, c28_r13, c28_r14, i1, l0, x2, q1, w2]
  rw [RK_loop]
  simp (disch := omega) only [RK_seq, RK_region0, RK_block, RK_cond, RK_skip, RK_ret, RK_exit, RE_seq, RE_seq_exit, RE_seq_ret, RE_block, RE_block_ret, RE_block_exit, RE_nil, RO_mv, RO_len, RO_bin, RO_binb, RO_un, RO_pick, RO_ixs, RO_fld, RO_part, RO_ixa, RO_ixv, RO_eqa, RO_eqn, RO_mx2, RO_mn2, RO_build2, RO_lit0, RO_lit1, RO_lit2, RO_mkfn0, RO_mkfn1, RO_cap, RO_slice_l, RO_slice_h, RO_slice_lh, RO_box, RO_alloc, RO_store, RO_clear, RO_callv0, RO_callv1, RO_callv2, RO_append, RO_load, RO_callf0, RO_callf1, RO_callf2, RO_callf3, RO_callf4, RO_guard, RO_nil, put_fr, opd_t, opd_c, upd_eq', upd_ne, ne_eq, ↓OM_some, ↓OM_none, ↓CM_bool, ↓CB_true, ↓CB_false, ↓GM_t, ↓GM_f, ↓GM_tup, OM_some, OM_none, CM_bool, CB_true, CB_false, GM_t, GM_f, GM_tup, reduceIte, reduceCtorEq, Nat.reduceLT, Nat.reduceEqDiff, not_false_eq_true, not_true_eq_false, bin_add, bin_sub, bin_mul, bin_eql, bin_neq, bin_lss, bin_leq, bin_gtr, bin_geq, bin_seql, bin_sneq, binb_eql, binb_neq, un_not, un_neg, pick_t, pick_f, mn_2, mx_2, len_nils, len_fs, len_row, eqa_2, bld2_int, lit2_int, decide_true, decide_false, Bool.not_true, Bool.not_false, Bool.false_eq_true, List.length_map, List.getD_cons_zero, List.getD_cons_succ, List.getD_nil, c28_r11, x3, c28_r15, FinQ_ret, res_t]
  simp only [List.nil_append, ← List.map_append] at q2
  rcases q2 with ⟨rfl, e0⟩ | ⟨i, ho⟩
  · exact ⟨(.nils, H), leave3 rfl (fun _ _ _ _ _ _ => by simp), .inl ⟨e0, .inl rfl, rfl⟩⟩
  · obtain ⟨ver, c, rfl, hrd⟩ := ho.rd
    exact ⟨_, leave3_row ho.wp hrd (underP _), .inr rfl⟩
end Go.Proofs.Tryt17A
end

section
namespace Go.Proofs.Tryt17A
open Go Go.AM
set_option linter.unusedSimpArgs false
set_option linter.unusedVariables false
variable {cx : Ctx} {H : Heap}

/-- A function of mode 2 whose answer is a slice that it made. -/
theorem leave2_Own {es : List (List AV)} {z lb : Nat} {h0 h1 : Heap} {r : AV × Heap} (ho : Own3 z h1 es r) (hl : lb ≤ h1.length) (hu : ∀ e ∈ es, ∀ c ∈ e, AV.under lb c = true) : ∃ u, leave 2 lb h0 r.2 r.1 = some (u, h0) ∧ Fz u es := by
  rcases ho with ⟨e0, h1 | h1, _⟩ | rfl
  · rw [h1]; exact ⟨_, leave2 rfl, .inl ⟨rfl, e0⟩⟩
  · rw [h1]; exact ⟨_, leave2 rfl, .inr ⟨true, by rw [e0]⟩⟩
  · exact ⟨_, leave2_row hl (by simp [rdEls, rdRow]) hu, .inr ⟨false, rfl⟩⟩
theorem leave2_OwE {es : List (List AV)} {z lb : Nat} {h0 h : Heap} {v : AV} (ho : OwE z lb h v es) (hu : ∀ e ∈ es, ∀ c ∈ e, AV.under lb c = true) : ∃ u, leave 2 lb h0 h v = some (u, h0) ∧ Fz u es := by
  rcases ho with ⟨rfl, e0⟩ | rfl | ⟨i, ho⟩
  · exact ⟨_, leave2 rfl, .inl ⟨rfl, e0⟩⟩
  · refine ⟨.fs es true, leave2 ?_, .inr ⟨true, rfl⟩⟩
    simp only [AV.under]
    induction es with
    | nil => rfl
    | cons e es ih =>
      simp only [AV.underss, Bool.and_eq_true]
      refine ⟨?_, ih (fun x hx => hu x (by simp [hx]))⟩
      have := hu e (by simp)
      induction e with
      | nil => rfl
      | cons c e ih2 =>
        simp only [AV.unders, Bool.and_eq_true]
        exact ⟨this c (by simp), ih2 (by
          intro x hx c' hc'
          rcases List.mem_cons.1 hx with rfl | hx
          · exact this c' (by simp [hc'])
          · exact hu x (by simp [hx]) c' hc') (fun x hx => this x (by simp [hx]))⟩
  · obtain ⟨ver, c, rfl, hrd⟩ := ho.rd
    exact ⟨_, leave2_row ho.wp hrd hu, .inr ⟨false, rfl⟩⟩

theorem mx_le {a b : Nat} (h : b * 16 ≤ maxLn) (hab : a ≤ b) : a * 16 ≤ maxLn := Nat.le_trans (Nat.mul_le_mul_right 16 hab) h

theorem mxb {n : Nat} (h : n ≤ 1000000) : n * 16 ≤ maxLn := Nat.le_trans (Nat.mul_le_mul_right 16 h) (by decide)

theorem pure_of {f : Nat} {args : List AV} {es : List (List AV)} (h : ∃ r : AV × Heap, callF (T prim23 prim36) (ev (T prim23 prim36)) cx f args H = some r ∧ r.2 = H ∧ Fz r.1 es) : ∃ r, callF (T prim23 prim36) (ev (T prim23 prim36)) cx f args H = some (r, H) ∧ Fz r es := by
  obtain ⟨⟨r, h'⟩, h1, rfl, h2⟩ := h
  exact ⟨r, h1, h2⟩

theorem f8_spec {la lb : List (Int × Int)} {a b : AV} (ha : Al 2 H a (la.map encP)) (hb : Al 2 H b (lb.map encP)) (hl : (la.length + lb.length + 1) * 16 ≤ maxLn) (hw : cx.wp ≤ H.length) :
    ∃ r, callF (T prim23 prim36) (ev (T prim23 prim36)) cx 8 [a, b] H = some (r, H) ∧ Fz r ((ofL (la ++ lb)).map encP) := by
  refine pure_of (callF_codeE (a := a8) rfl hw (Nat.le_of_ble_eq_true rfl) ?_)
  simp only [a8, c8, Ctx.enter]
  have li : lit2M [AV.nils] a b = some (.fs [[a], [b]] true) := by simp [lit2M, ha.cells, hb.cells]
  obtain ⟨r, r1, r2⟩ := f28_spec (cx := ⟨H.length, none⟩) (H := H) ha hb hl (Nat.le_refl _)
  have ho := own3_old r2
  have hv : r.1.cells = some [r.1] := by rcases r2 with ⟨_, h1 | h1, _⟩ | h1 <;> rw [h1] <;> rfl
  obtain ⟨q, q1, q2⟩ := f7_spec (cx := ⟨H.length, none⟩) (H := r.2) (l := la ++ lb) hv (fun h hh => by
    rcases r2 with ⟨h0, h1 | h1, _⟩ | rfl
    · rw [h1, h0]; exact .nils
    · rw [h1, h0]; exact .fs (by simp)
    · exact Go.AM.Ow.sl ((Own3.ow (wp := 0) (H := H) (es := (la ++ lb).map encP) (Nat.zero_le _) (lensP _)).of (hh _ (by simp)))) (by simpa using hl) ho.1
  simp (disch := omega) only [RK_seq, RK_region0, RK_block, RK_cond, RK_skip, RK_ret, RK_exit, RE_seq, RE_seq_exit, RE_seq_ret, RE_block, RE_block_ret, RE_block_exit, RE_nil, RO_mv, RO_len, RO_bin, RO_binb, RO_un, RO_pick, RO_ixs, RO_fld, RO_part, RO_ixa, RO_ixv, RO_eqa, RO_eqn, RO_mx2, RO_mn2, RO_build2, RO_lit0, RO_lit1, RO_lit2, RO_mkfn0, RO_mkfn1, RO_cap, RO_slice_l, RO_slice_h, RO_slice_lh, RO_box, RO_alloc, RO_store, RO_clear, RO_callv0, RO_callv1, RO_callv2, RO_append, RO_load, RO_callf0, RO_callf1, RO_callf2, RO_callf3, RO_callf4, RO_guard, RO_nil, put_fr, opd_t, opd_c, upd_eq', upd_ne, ne_eq, ↓OM_some, ↓OM_none, ↓CM_bool, ↓CB_true, ↓CB_false, ↓GM_t, ↓GM_f, ↓GM_tup, OM_some, OM_none, CM_bool, CB_true, CB_false, GM_t, GM_f, GM_tup, reduceIte, reduceCtorEq, Nat.reduceLT, Nat.reduceEqDiff, not_false_eq_true, not_true_eq_false, bin_add, bin_sub, bin_mul, bin_eql, bin_neq, bin_lss, bin_leq, bin_gtr, bin_geq, bin_seql, bin_sneq, binb_eql, binb_neq, un_not, un_neg, pick_t, pick_f, mn_2, mx_2, len_nils, len_fs, len_row, eqa_2, bld2_int, lit2_int, decide_true, decide_false, Bool.not_true, Bool.not_false, Bool.false_eq_true, List.length_map, List.getD_cons_zero, List.getD_cons_succ, List.getD_nil, c8_r0, c8_r1, li, r1, q1, FinQ_ret, res_t]
  obtain ⟨u, u1, u2⟩ := leave2_Own (lb := H.length) (h0 := H) q2 ho.1 (underP _)
  exact ⟨_, u1, rfl, u2⟩

/-! ### Close -/
theorem slc_take {z : Nat} {u : AV} {es : List (List AV)} {i : Nat} (hu : Fz u es) (hz : ∀ e ∈ es, e.length = z) (hi : i ≤ es.length) : ∃ w, slcM z u none (some (.int .i64 i)) none = some w ∧ Fz w (es.take i) := by
  have hp : (0 : Int) ≤ (i : Int) := by omega
  rcases hu with ⟨rfl, rfl⟩ | ⟨x, rfl⟩
  · have : i = 0 := by simpa using hi
    subst this
    exact ⟨.nils, by simp [slcM, cut, optNat, asNat], .inl ⟨rfl, by simp⟩⟩
  · have ha : es.all (fun e => e.length == z) = true := by rw [List.all_eq_true]; intro e he; simp [hz e he]
    have ha' : ∀ x ∈ es, x.length = z := hz
    exact ⟨.fs (es.take i) _, by simp only [slcM, cut, optNat, asNat, hp, if_true, Option.bind_eq_bind, Option.bind_some, Int.toNat_natCast, Nat.zero_le, hi, ha, true_and, and_self, List.drop_zero]; rfl, .inr ⟨_, rfl⟩⟩

def inn (a : Int) (bs : List Int) : List (Int × Int) := bs.map fun b => (a, b)
def clo (to : List Int) : Nat → List (Int × Int)
  | 0 => []
  | k + 1 => clo to k ++ inn (to.getD k 0) (to.take k)

theorem clo_len (to : List Int) : ∀ k, k ≤ to.length → (clo to k).length ≤ k * to.length
  | 0, _ => by simp [clo]
  | k + 1, h => by
    have := clo_len to k (by omega)
    simp only [clo, List.length_append, inn, List.length_map, List.length_take]
    have : (k + 1) * to.length = k * to.length + to.length := by rw [Nat.add_mul]; omega
    omega

theorem cl_in (a : Int) (bs : List Int) (ub : AV) (hub : ∀ h, Sl 1 h ub (bs.map encI)) (hbl : bs.length < 4611686018427387904) (base : List (Int × Int)) (hbd : (base.length + bs.length) * 16 ≤ maxLn) (wp : Nat) (n6 n1 : AV) (n14 n12 n13 : AV)
    (Q : Ex → St → Prop) (q0 : ∀ f' h' s, OwE 2 wp h' s ((base ++ inn a bs).map encP) → wp ≤ h'.length → f' 5 = s → f' 1 = n1 → f' 14 = n14 → f' 12 = n12 → f' 13 = n13 → Q (.exit 2) ⟨mkfr 37 f', [], h'⟩)
    (f : Nat → AV) (h7 : f 7 = .int .i64 a) (h21 : f 21 = ub) (h22 : f 22 = .int .i64 bs.length) (h1 : f 1 = n1) (h14 : f 14 = n14) (h12 : f 12 = n12) (h13 : f 13 = n13) (j : Nat) (hj : j ≤ bs.length) (h23 : f 23 = .int .i64 j) (h : Heap) (s : AV) (h5 : f 5 = s)
    (ho : OwE 2 wp h s ((base ++ inn a (bs.take j)).map encP)) (hwh : wp ≤ h.length) :
    R (T prim23 prim36) ⟨wp, none⟩ c9_l1 ⟨mkfr 37 f, [], h⟩ Q := by
  have hm := List.length_map (as := bs) encI
  rw [c9_l1, R_loop, ← c9_l1, c9_lb1]
  by_cases hlt : j < bs.length
  · have e1 : ((j : Int) < (bs.length : Int)) = True := by simp; omega
    have sb := hub h
    have hx : Sl 2 h (.fs [encP (a, bs[j])] true) [encP (a, bs[j])] := .fs (by simp [encP])
    have tk : base ++ inn a (bs.take (j + 1)) = base ++ inn a (bs.take j) ++ [(a, bs[j])] := by
      rw [List.take_succ_eq_append_getElem hlt]; simp only [inn, List.map_append, List.map_cons, List.map_nil, List.append_assoc]
    have lb : ((base ++ inn a (bs.take j)).map encP).length = base.length + j := by simp [inn]; omega
    obtain ⟨v, h', a1, a2, a3, a4⟩ := ap_any (bytes := 16) ho hwh (lensP _) hx (by simp [encP]) (by rw [lb]; simp; unfold maxLn at *; omega) (by rw [lb]; simp; unfold maxLn at *; omega)
    have li : lit1M [AV.int .i64 0, .int .i64 0] (.agg [.int .i64 a, .int .i64 bs[j]]) = some (.fs [encP (a, bs[j])] true) := lit1_agg rfl
    simp (disch := omega) only [RK_seq, RK_region0, RK_block, RK_cond, RK_skip, RK_ret, RK_exit, RE_seq, RE_seq_exit, RE_seq_ret, RE_block, RE_block_ret, RE_block_exit, RE_nil, RO_mv, RO_len, RO_bin, RO_binb, RO_un, RO_pick, RO_ixs, RO_fld, RO_part, RO_ixa, RO_ixv, RO_eqa, RO_eqn, RO_mx2, RO_mn2, RO_build2, RO_lit0, RO_lit1, RO_lit2, RO_mkfn0, RO_mkfn1, RO_cap, RO_slice_l, RO_slice_h, RO_slice_lh, RO_box, RO_alloc, RO_store, RO_clear, RO_callv0, RO_callv1, RO_callv2, RO_append, RO_load, RO_callf0, RO_callf1, RO_callf2, RO_callf3, RO_callf4, RO_guard, RO_nil, put_fr, opd_t, opd_c, upd_eq', upd_ne, ne_eq, ↓OM_some, ↓OM_none, ↓CM_bool, ↓CB_true, ↓CB_false, ↓GM_t, ↓GM_f, ↓GM_tup, OM_some, OM_none, CM_bool, CB_true, CB_false, GM_t, GM_f, GM_tup, reduceIte, reduceCtorEq, Nat.reduceLT, Nat.reduceEqDiff, not_false_eq_true, not_true_eq_false, bin_add, bin_sub, bin_mul, bin_eql, bin_neq, bin_lss, bin_leq, bin_gtr, bin_geq, bin_seql, bin_sneq, binb_eql, binb_neq, un_not, un_neg, pick_t, pick_f, mn_2, mx_2, len_nils, len_fs, len_row, eqa_2, bld2_int, lit2_int, decide_true, decide_false, Bool.not_true, Bool.not_false, Bool.false_eq_true, List.length_map, List.getD_cons_zero, List.getD_cons_succ, List.getD_nil, c9_r6, c9_r7, c9_r8, c9_r9, h5, h7, h21, h22, h23, e1, sb.ixs, sb.ld, encI_get bs j hlt, part1, li, a1, wrap64]
    exact cl_in a bs ub hub hbl base hbd wp n6 n1 n14 n12 n13 Q q0 _ (by simp [upd', h7]) (by simp [upd', h21]) (by simp [upd', h22]) (by simp [upd', h1]) (by simp [upd', h14]) (by simp [upd', h12]) (by simp [upd', h13]) (j + 1) hlt (by simp [upd']) h' v (by simp [upd']) (by rw [tk]; simpa using a2) (by omega)
  · have : j = bs.length := by omega
    subst this
    rw [List.take_length] at ho
    simp (disch := omega) only [RK_seq, RK_region0, RK_block, RK_cond, RK_skip, RK_ret, RK_exit, RE_seq, RE_seq_exit, RE_seq_ret, RE_block, RE_block_ret, RE_block_exit, RE_nil, RO_mv, RO_len, RO_bin, RO_binb, RO_un, RO_pick, RO_ixs, RO_fld, RO_part, RO_ixa, RO_ixv, RO_eqa, RO_eqn, RO_mx2, RO_mn2, RO_build2, RO_lit0, RO_lit1, RO_lit2, RO_mkfn0, RO_mkfn1, RO_cap, RO_slice_l, RO_slice_h, RO_slice_lh, RO_box, RO_alloc, RO_store, RO_clear, RO_callv0, RO_callv1, RO_callv2, RO_append, RO_load, RO_callf0, RO_callf1, RO_callf2, RO_callf3, RO_callf4, RO_guard, RO_nil, put_fr, opd_t, opd_c, upd_eq', upd_ne, ne_eq, ↓OM_some, ↓OM_none, ↓CM_bool, ↓CB_true, ↓CB_false, ↓GM_t, ↓GM_f, ↓GM_tup, OM_some, OM_none, CM_bool, CB_true, CB_false, GM_t, GM_f, GM_tup, reduceIte, reduceCtorEq, Nat.reduceLT, Nat.reduceEqDiff, not_false_eq_true, not_true_eq_false, bin_add, bin_sub, bin_mul, bin_eql, bin_neq, bin_lss, bin_leq, bin_gtr, bin_geq, bin_seql, bin_sneq, binb_eql, binb_neq, un_not, un_neg, pick_t, pick_f, mn_2, mx_2, len_nils, len_fs, len_row, eqa_2, bld2_int, lit2_int, decide_true, decide_false, Bool.not_true, Bool.not_false, Bool.false_eq_true, List.length_map, List.getD_cons_zero, List.getD_cons_succ, List.getD_nil, c9_r6, h22, h23, Int.lt_irrefl]
    exact q0 _ _ s ho hwh (by simp [upd', h5]) (by simp [upd', h1]) (by simp [upd', h14]) (by simp [upd', h12]) (by simp [upd', h13])
termination_by bs.length - j

theorem cl_out (l : List (Int × Int)) (to : List Int) (u : AV) (hu : Fz u (to.map encI)) (htl : to.length ≤ 40) (hbd : (l.length + 4500) * 16 ≤ maxLn) (wp : Nat)
    (Q : Ex → St → Prop) (q0 : ∀ f' h' s, OwE 2 wp h' s ((l ++ clo to to.length).map encP) → wp ≤ h'.length → f' 5 = s → Q (.exit 0) ⟨mkfr 37 f', [], h'⟩)
    (f : Nat → AV) (h1 : f 1 = u) (h12 : f 12 = u) (h13 : f 13 = .int .i64 to.length) (k : Nat) (hk : k ≤ to.length) (h14 : f 14 = .int .i64 k) (h : Heap) (s : AV) (h5 : f 5 = s)
    (ho : OwE 2 wp h s ((l ++ clo to k).map encP)) (hwh : wp ≤ h.length) :
    R (T prim23 prim36) ⟨wp, none⟩ c9_l0 ⟨mkfr 37 f, [], h⟩ Q := by
  have hm := List.length_map (as := to) encI
  rw [c9_l0, R_loop, ← c9_l0, c9_lb0]
  by_cases hlt : k < to.length
  · have e1 : ((k : Int) < (to.length : Int)) = True := by simp; omega
    have sb := fun h => hu.sl (z := 1) (lensI _) h
    obtain ⟨w, w1, w2⟩ := slc_take (i := k) hu (lensI _) (by simpa using hk)
    rw [← List.map_take] at w2
    have sw := fun h => w2.sl (z := 1) (lensI _) h
    have lw := (sw h).len
    have hk' : min k to.length = k := by omega
    simp only [List.length_map, List.length_take, hk'] at lw
    have hg : to.getD k 0 = to[k] := by simp [List.getD_eq_getElem?_getD, hlt]
    have hcl := clo_len to k hk
    have hcl2 : k * to.length ≤ 40 * 40 := Nat.mul_le_mul (by omega) (by omega)
    simp (disch := omega) only [RK_seq, RK_region0, RK_block, RK_cond, RK_skip, RK_ret, RK_exit, RE_seq, RE_seq_exit, RE_seq_ret, RE_block, RE_block_ret, RE_block_exit, RE_nil, RO_mv, RO_len, RO_bin, RO_binb, RO_un, RO_pick, RO_ixs, RO_fld, RO_part, RO_ixa, RO_ixv, RO_eqa, RO_eqn, RO_mx2, RO_mn2, RO_build2, RO_lit0, RO_lit1, RO_lit2, RO_mkfn0, RO_mkfn1, RO_cap, RO_slice_l, RO_slice_h, RO_slice_lh, RO_box, RO_alloc, RO_store, RO_clear, RO_callv0, RO_callv1, RO_callv2, RO_append, RO_load, RO_callf0, RO_callf1, RO_callf2, RO_callf3, RO_callf4, RO_guard, RO_nil, put_fr, opd_t, opd_c, upd_eq', upd_ne, ne_eq, ↓OM_some, ↓OM_none, ↓CM_bool, ↓CB_true, ↓CB_false, ↓GM_t, ↓GM_f, ↓GM_tup, OM_some, OM_none, CM_bool, CB_true, CB_false, GM_t, GM_f, GM_tup, reduceIte, reduceCtorEq, Nat.reduceLT, Nat.reduceEqDiff, not_false_eq_true, not_true_eq_false, bin_add, bin_sub, bin_mul, bin_eql, bin_neq, bin_lss, bin_leq, bin_gtr, bin_geq, bin_seql, bin_sneq, binb_eql, binb_neq, un_not, un_neg, pick_t, pick_f, mn_2, mx_2, len_nils, len_fs, len_row, eqa_2, bld2_int, lit2_int, decide_true, decide_false, Bool.not_true, Bool.not_false, Bool.false_eq_true, List.length_map, List.getD_cons_zero, List.getD_cons_succ, List.getD_nil, c9_r3, c9_r4, c9_r5, h1, h12, h13, h14, e1, (sb h).ixs, (sb h).ld, encI_get to k hlt, part1, w1, lw]
    refine cl_in to[k] (to.take k) w sw (by simp; omega) (l ++ clo to k) (by simp; unfold maxLn at *; omega) wp .any u (.int .i64 k) u (.int .i64 to.length) _ (fun f' h' s' o' w' g5 g1 g14 g12 g13 => ?_) _ (by simp [upd']) (by simp [upd']) (by simp [upd', hk']) (by simp [upd', h1]) (by simp [upd', h14]) (by simp [upd', h12]) (by simp [upd', h13]) 0 (Nat.zero_le _) (by simp [upd']) h s (by simp [upd', h5]) (by simpa [inn] using ho) hwh
    simp (disch := omega) only [RK_seq, RK_region0, RK_block, RK_cond, RK_skip, RK_ret, RK_exit, RE_seq, RE_seq_exit, RE_seq_ret, RE_block, RE_block_ret, RE_block_exit, RE_nil, RO_mv, RO_len, RO_bin, RO_binb, RO_un, RO_pick, RO_ixs, RO_fld, RO_part, RO_ixa, RO_ixv, RO_eqa, RO_eqn, RO_mx2, RO_mn2, RO_build2, RO_lit0, RO_lit1, RO_lit2, RO_mkfn0, RO_mkfn1, RO_cap, RO_slice_l, RO_slice_h, RO_slice_lh, RO_box, RO_alloc, RO_store, RO_clear, RO_callv0, RO_callv1, RO_callv2, RO_append, RO_load, RO_callf0, RO_callf1, RO_callf2, RO_callf3, RO_callf4, RO_guard, RO_nil, put_fr, opd_t, opd_c, upd_eq', upd_ne, ne_eq, ↓OM_some, ↓OM_none, ↓CM_bool, ↓CB_true, ↓CB_false, ↓GM_t, ↓GM_f, ↓GM_tup, OM_some, OM_none, CM_bool, CB_true, CB_false, GM_t, GM_f, GM_tup, reduceIte, reduceCtorEq, Nat.reduceLT, Nat.reduceEqDiff, not_false_eq_true, not_true_eq_false, bin_add, bin_sub, bin_mul, bin_eql, bin_neq, bin_lss, bin_leq, bin_gtr, bin_geq, bin_seql, bin_sneq, binb_eql, binb_neq, un_not, un_neg, pick_t, pick_f, mn_2, mx_2, len_nils, len_fs, len_row, eqa_2, bld2_int, lit2_int, decide_true, decide_false, Bool.not_true, Bool.not_false, Bool.false_eq_true, List.length_map, List.getD_cons_zero, List.getD_cons_succ, List.getD_nil, c9_r10, g14, wrap64]
    exact cl_out l to u hu htl hbd wp Q q0 _ (by simp [upd', g1]) (by simp [upd', g12]) (by simp [upd', g13]) (k + 1) hlt (by simp [upd']) h' s' (by simp [upd', g5]) (by rw [show l ++ clo to (k + 1) = l ++ clo to k ++ inn to[k] (to.take k) from by simp only [clo, hg, List.append_assoc]]; exact o') w'
  · have : k = to.length := by omega
    subst this
    simp (disch := omega) only [RK_seq, RK_region0, RK_block, RK_cond, RK_skip, RK_ret, RK_exit, RE_seq, RE_seq_exit, RE_seq_ret, RE_block, RE_block_ret, RE_block_exit, RE_nil, RO_mv, RO_len, RO_bin, RO_binb, RO_un, RO_pick, RO_ixs, RO_fld, RO_part, RO_ixa, RO_ixv, RO_eqa, RO_eqn, RO_mx2, RO_mn2, RO_build2, RO_lit0, RO_lit1, RO_lit2, RO_mkfn0, RO_mkfn1, RO_cap, RO_slice_l, RO_slice_h, RO_slice_lh, RO_box, RO_alloc, RO_store, RO_clear, RO_callv0, RO_callv1, RO_callv2, RO_append, RO_load, RO_callf0, RO_callf1, RO_callf2, RO_callf3, RO_callf4, RO_guard, RO_nil, put_fr, opd_t, opd_c, upd_eq', upd_ne, ne_eq, ↓OM_some, ↓OM_none, ↓CM_bool, ↓CB_true, ↓CB_false, ↓GM_t, ↓GM_f, ↓GM_tup, OM_some, OM_none, CM_bool, CB_true, CB_false, GM_t, GM_f, GM_tup, reduceIte, reduceCtorEq, Nat.reduceLT, Nat.reduceEqDiff, not_false_eq_true, not_true_eq_false, bin_add, bin_sub, bin_mul, bin_eql, bin_neq, bin_lss, bin_leq, bin_gtr, bin_geq, bin_seql, bin_sneq, binb_eql, binb_neq, un_not, un_neg, pick_t, pick_f, mn_2, mx_2, len_nils, len_fs, len_row, eqa_2, bld2_int, lit2_int, decide_true, decide_false, Bool.not_true, Bool.not_false, Bool.false_eq_true, List.length_map, List.getD_cons_zero, List.getD_cons_succ, List.getD_nil, c9_r3, h13, h14, Int.lt_irrefl]
    exact q0 _ _ s ho hwh (by simp [upd', h5])
termination_by to.length - k

def clL (l : List (Int × Int)) (to : List Int) : List (Int × Int) := ofL (l ++ clo to to.length)

theorem f9_spec {l : List (Int × Int)} {to : List Int} {v u : AV} (hv : Fz v (l.map encP)) (hu : Fz u (to.map encI)) (hl : l.length ≤ 100000) (htl : to.length ≤ 40) (hw : cx.wp ≤ H.length) :
    ∃ r, callF (T prim23 prim36) (ev (T prim23 prim36)) cx 9 [v, u] H = some (r, H) ∧ Fz r ((clL l to).map encP) := by
  refine pure_of (callF_codeE (a := a9) rfl hw (Nat.le_of_ble_eq_true rfl) ?_)
  simp only [a9, c9, Ctx.enter]
  have hs := hv.sl (z := 2) (lensP _) H
  have b1 : l.length * 16 ≤ maxLn := mxb (by omega)
  have b2 : (l.length + 4500) * 16 ≤ maxLn := mxb (by omega)
  have lu := (hu.sl (z := 1) (lensI _) H).len
  rw [List.length_map] at lu
  have hc : ∃ r : AV × Heap, callF (T prim23 prim36) (ev (T prim23 prim36)) ⟨H.length, none⟩ 29 [v] H = some r ∧ OwE 2 H.length r.2 r.1 (l.map encP) ∧ H.length ≤ r.2.length := by
    rcases isNil_cases hs with ⟨rfl, h0⟩ | hn
    · exact ⟨_, clone_nilP (Nat.le_refl _), .inl ⟨rfl, h0⟩, Nat.le_refl _⟩
    · have := clone_specP (p23 := prim23) (p36 := prim36) (cx := ⟨H.length, none⟩) hs hn b1 (Nat.le_refl _)
      by_cases h0 : l = []
      · rw [if_pos h0] at this
        exact ⟨_, this, .inr (.inl (by simp [h0])), Nat.le_refl _⟩
      · rw [if_neg h0] at this
        exact ⟨_, this, .inr (.inr ⟨_, by simpa using Own3.ow (H := H) (es := l.map encP) (Nat.le_refl _) (lensP l)⟩), by simp⟩
  obtain ⟨r, c1, c2, c3⟩ := hc
  simp (disch := omega) only [RK_seq, RK_region0, RK_block, RK_cond, RK_skip, RK_ret, RK_exit, RE_seq, RE_seq_exit, RE_seq_ret, RE_block, RE_block_ret, RE_block_exit, RE_nil, RO_mv, RO_len, RO_bin, RO_binb, RO_un, RO_pick, RO_ixs, RO_fld, RO_part, RO_ixa, RO_ixv, RO_eqa, RO_eqn, RO_mx2, RO_mn2, RO_build2, RO_lit0, RO_lit1, RO_lit2, RO_mkfn0, RO_mkfn1, RO_cap, RO_slice_l, RO_slice_h, RO_slice_lh, RO_box, RO_alloc, RO_store, RO_clear, RO_callv0, RO_callv1, RO_callv2, RO_append, RO_load, RO_callf0, RO_callf1, RO_callf2, RO_callf3, RO_callf4, RO_guard, RO_nil, put_fr, opd_t, opd_c, upd_eq', upd_ne, ne_eq, ↓OM_some, ↓OM_none, ↓CM_bool, ↓CB_true, ↓CB_false, ↓GM_t, ↓GM_f, ↓GM_tup, OM_some, OM_none, CM_bool, CB_true, CB_false, GM_t, GM_f, GM_tup, reduceIte, reduceCtorEq, Nat.reduceLT, Nat.reduceEqDiff, not_false_eq_true, not_true_eq_false, bin_add, bin_sub, bin_mul, bin_eql, bin_neq, bin_lss, bin_leq, bin_gtr, bin_geq, bin_seql, bin_sneq, binb_eql, binb_neq, un_not, un_neg, pick_t, pick_f, mn_2, mx_2, len_nils, len_fs, len_row, eqa_2, bld2_int, lit2_int, decide_true, decide_false, Bool.not_true, Bool.not_false, Bool.false_eq_true, List.length_map, List.getD_cons_zero, List.getD_cons_succ, List.getD_nil, c9_r0, c9_r1, c9_r2, c1, lu]
  refine cl_out l to u hu htl b2 H.length _ (fun f' h' s' o' w' g5 => ?_) _ (by simp [upd']) (by simp [upd']) (by simp [upd']) 0 (Nat.zero_le _) (by simp [upd']) r.2 r.1 (by simp [upd']) (by simpa [clo] using c2) c3
  have hcl := clo_len to to.length (Nat.le_refl _)
  have hcl2 : to.length * to.length ≤ 40 * 40 := Nat.mul_le_mul htl htl
  have b3 : ((l ++ clo to to.length).length + 1) * 16 ≤ maxLn := mxb (by rw [List.length_append]; omega)
  obtain ⟨q, q1, q2⟩ := f7_spec (cx := ⟨H.length, none⟩) (H := h') (l := l ++ clo to to.length) (v := s') o'.cells.1 (fun h hh => (OwE.of o' (fun k _ hk => hh k hk)).sl (lensP _)) b3 w'
  simp (disch := omega) only [RK_seq, RK_region0, RK_block, RK_cond, RK_skip, RK_ret, RK_exit, RE_seq, RE_seq_exit, RE_seq_ret, RE_block, RE_block_ret, RE_block_exit, RE_nil, RO_mv, RO_len, RO_bin, RO_binb, RO_un, RO_pick, RO_ixs, RO_fld, RO_part, RO_ixa, RO_ixv, RO_eqa, RO_eqn, RO_mx2, RO_mn2, RO_build2, RO_lit0, RO_lit1, RO_lit2, RO_mkfn0, RO_mkfn1, RO_cap, RO_slice_l, RO_slice_h, RO_slice_lh, RO_box, RO_alloc, RO_store, RO_clear, RO_callv0, RO_callv1, RO_callv2, RO_append, RO_load, RO_callf0, RO_callf1, RO_callf2, RO_callf3, RO_callf4, RO_guard, RO_nil, put_fr, opd_t, opd_c, upd_eq', upd_ne, ne_eq, ↓OM_some, ↓OM_none, ↓CM_bool, ↓CB_true, ↓CB_false, ↓GM_t, ↓GM_f, ↓GM_tup, OM_some, OM_none, CM_bool, CB_true, CB_false, GM_t, GM_f, GM_tup, reduceIte, reduceCtorEq, Nat.reduceLT, Nat.reduceEqDiff, not_false_eq_true, not_true_eq_false, bin_add, bin_sub, bin_mul, bin_eql, bin_neq, bin_lss, bin_leq, bin_gtr, bin_geq, bin_seql, bin_sneq, binb_eql, binb_neq, un_not, un_neg, pick_t, pick_f, mn_2, mx_2, len_nils, len_fs, len_row, eqa_2, bld2_int, lit2_int, decide_true, decide_false, Bool.not_true, Bool.not_false, Bool.false_eq_true, List.length_map, List.getD_cons_zero, List.getD_cons_succ, List.getD_nil, c9_r11, g5, q1, FinQ_ret, res_t]
  obtain ⟨x, u1, u2⟩ := leave2_Own (lb := H.length) (h0 := H) q2 w' (underP _)
  exact ⟨_, u1, rfl, u2⟩
end Go.Proofs.Tryt17A
end

section
namespace Go.Proofs.Tryt17A
open Go Go.AM
set_option linter.unusedSimpArgs false
set_option linter.unusedVariables false
variable {p23 p36 : Nat → List AV → Heap → Option (AV × Heap)} {cx : Ctx} {H : Heap}

/-! ### Of's comparison -/
def cmpI (x y : Int) : Int := if x < y then -1 else if y < x then 1 else 0
def cmpP (x y : Int × Int) : Int := if cmpI x.1 y.1 = 0 then cmpI x.2 y.2 else cmpI x.1 y.1

theorem f42_spec (x : Int) (hw : cx.wp ≤ H.length) : callF (T p23 p36) (ev (T p23 p36)) cx 42 [.int .i64 x] H = some (.bool false, H) := by
  refine callF_code2 (a := a42) rfl rfl hw (Nat.le_of_ble_eq_true rfl) rfl ?_
  simp only [a42, c42]
  simp (disch := omega) only [RK_seq, RK_region0, RK_block, RK_cond, RK_skip, RK_ret, RK_exit, RE_seq, RE_seq_exit, RE_seq_ret, RE_block, RE_block_ret, RE_block_exit, RE_nil, RO_mv, RO_len, RO_bin, RO_binb, RO_un, RO_pick, RO_ixs, RO_fld, RO_part, RO_ixa, RO_ixv, RO_eqa, RO_eqn, RO_mx2, RO_mn2, RO_build2, RO_lit0, RO_lit1, RO_lit2, RO_mkfn0, RO_mkfn1, RO_cap, RO_slice_l, RO_slice_h, RO_slice_lh, RO_box, RO_alloc, RO_store, RO_clear, RO_callv0, RO_callv1, RO_callv2, RO_append, RO_load, RO_callf0, RO_callf1, RO_callf2, RO_callf3, RO_callf4, RO_guard, RO_nil, put_fr, opd_t, opd_c, upd_eq', upd_ne, ne_eq, ↓OM_some, ↓OM_none, ↓CM_bool, ↓CB_true, ↓CB_false, ↓GM_t, ↓GM_f, ↓GM_tup, OM_some, OM_none, CM_bool, CB_true, CB_false, GM_t, GM_f, GM_tup, reduceIte, reduceCtorEq, Nat.reduceLT, Nat.reduceEqDiff, not_false_eq_true, not_true_eq_false, bin_add, bin_sub, bin_mul, bin_eql, bin_neq, bin_lss, bin_leq, bin_gtr, bin_geq, bin_seql, bin_sneq, binb_eql, binb_neq, un_not, un_neg, pick_t, pick_f, mn_2, mx_2, len_nils, len_fs, len_row, eqa_2, bld2_int, lit2_int, decide_true, decide_false, Bool.not_true, Bool.not_false, Bool.false_eq_true, List.length_map, List.getD_cons_zero, List.getD_cons_succ, List.getD_nil, c42_r0, c42_r1, eq_self, FinQ_ret, res_t]
theorem f26_spec (x y : Int) (hw : cx.wp ≤ H.length) : callF (T p23 p36) (ev (T p23 p36)) cx 26 [.int .i64 x, .int .i64 y] H = some (.int .i64 (cmpI x y), H) := by
  refine callF_code2 (a := a26) rfl rfl hw (Nat.le_of_ble_eq_true rfl) rfl ?_
  simp only [a26, c26]
  have n1 := f42_spec (p23 := p23) (p36 := p36) (cx := ⟨H.length, none⟩) (H := H) x (Nat.le_refl _)
  have n2 := f42_spec (p23 := p23) (p36 := p36) (cx := ⟨H.length, none⟩) (H := H) y (Nat.le_refl _)
  by_cases h1 : x < y
  · simp (disch := omega) only [RK_seq, RK_region0, RK_block, RK_cond, RK_skip, RK_ret, RK_exit, RE_seq, RE_seq_exit, RE_seq_ret, RE_block, RE_block_ret, RE_block_exit, RE_nil, RO_mv, RO_len, RO_bin, RO_binb, RO_un, RO_pick, RO_ixs, RO_fld, RO_part, RO_ixa, RO_ixv, RO_eqa, RO_eqn, RO_mx2, RO_mn2, RO_build2, RO_lit0, RO_lit1, RO_lit2, RO_mkfn0, RO_mkfn1, RO_cap, RO_slice_l, RO_slice_h, RO_slice_lh, RO_box, RO_alloc, RO_store, RO_clear, RO_callv0, RO_callv1, RO_callv2, RO_append, RO_load, RO_callf0, RO_callf1, RO_callf2, RO_callf3, RO_callf4, RO_guard, RO_nil, put_fr, opd_t, opd_c, upd_eq', upd_ne, ne_eq, ↓OM_some, ↓OM_none, ↓CM_bool, ↓CB_true, ↓CB_false, ↓GM_t, ↓GM_f, ↓GM_tup, OM_some, OM_none, CM_bool, CB_true, CB_false, GM_t, GM_f, GM_tup, reduceIte, reduceCtorEq, Nat.reduceLT, Nat.reduceEqDiff, not_false_eq_true, not_true_eq_false, bin_add, bin_sub, bin_mul, bin_eql, bin_neq, bin_lss, bin_leq, bin_gtr, bin_geq, bin_seql, bin_sneq, binb_eql, binb_neq, un_not, un_neg, pick_t, pick_f, mn_2, mx_2, len_nils, len_fs, len_row, eqa_2, bld2_int, lit2_int, decide_true, decide_false, Bool.not_true, Bool.not_false, Bool.false_eq_true, List.length_map, List.getD_cons_zero, List.getD_cons_succ, List.getD_nil, c26_r0, c26_r1, c26_r2, n1, n2, c26_r3, c26_r7, c26_r9, h1, c26_r10, FinQ_ret, res_t, cmpI]
  · by_cases h2 : y < x
    · simp (disch := omega) only [RK_seq, RK_region0, RK_block, RK_cond, RK_skip, RK_ret, RK_exit, RE_seq, RE_seq_exit, RE_seq_ret, RE_block, RE_block_ret, RE_block_exit, RE_nil, RO_mv, RO_len, RO_bin, RO_binb, RO_un, RO_pick, RO_ixs, RO_fld, RO_part, RO_ixa, RO_ixv, RO_eqa, RO_eqn, RO_mx2, RO_mn2, RO_build2, RO_lit0, RO_lit1, RO_lit2, RO_mkfn0, RO_mkfn1, RO_cap, RO_slice_l, RO_slice_h, RO_slice_lh, RO_box, RO_alloc, RO_store, RO_clear, RO_callv0, RO_callv1, RO_callv2, RO_append, RO_load, RO_callf0, RO_callf1, RO_callf2, RO_callf3, RO_callf4, RO_guard, RO_nil, put_fr, opd_t, opd_c, upd_eq', upd_ne, ne_eq, ↓OM_some, ↓OM_none, ↓CM_bool, ↓CB_true, ↓CB_false, ↓GM_t, ↓GM_f, ↓GM_tup, OM_some, OM_none, CM_bool, CB_true, CB_false, GM_t, GM_f, GM_tup, reduceIte, reduceCtorEq, Nat.reduceLT, Nat.reduceEqDiff, not_false_eq_true, not_true_eq_false, bin_add, bin_sub, bin_mul, bin_eql, bin_neq, bin_lss, bin_leq, bin_gtr, bin_geq, bin_seql, bin_sneq, binb_eql, binb_neq, un_not, un_neg, pick_t, pick_f, mn_2, mx_2, len_nils, len_fs, len_row, eqa_2, bld2_int, lit2_int, decide_true, decide_false, Bool.not_true, Bool.not_false, Bool.false_eq_true, List.length_map, List.getD_cons_zero, List.getD_cons_succ, List.getD_nil, c26_r0, c26_r1, c26_r2, n1, n2, c26_r3, c26_r7, c26_r9, h1, c26_r11, gt_iff_lt, h2, c26_r12, FinQ_ret, res_t, cmpI]
    · simp (disch := omega) only [RK_seq, RK_region0, RK_block, RK_cond, RK_skip, RK_ret, RK_exit, RE_seq, RE_seq_exit, RE_seq_ret, RE_block, RE_block_ret, RE_block_exit, RE_nil, RO_mv, RO_len, RO_bin, RO_binb, RO_un, RO_pick, RO_ixs, RO_fld, RO_part, RO_ixa, RO_ixv, RO_eqa, RO_eqn, RO_mx2, RO_mn2, RO_build2, RO_lit0, RO_lit1, RO_lit2, RO_mkfn0, RO_mkfn1, RO_cap, RO_slice_l, RO_slice_h, RO_slice_lh, RO_box, RO_alloc, RO_store, RO_clear, RO_callv0, RO_callv1, RO_callv2, RO_append, RO_load, RO_callf0, RO_callf1, RO_callf2, RO_callf3, RO_callf4, RO_guard, RO_nil, put_fr, opd_t, opd_c, upd_eq', upd_ne, ne_eq, ↓OM_some, ↓OM_none, ↓CM_bool, ↓CB_true, ↓CB_false, ↓GM_t, ↓GM_f, ↓GM_tup, OM_some, OM_none, CM_bool, CB_true, CB_false, GM_t, GM_f, GM_tup, reduceIte, reduceCtorEq, Nat.reduceLT, Nat.reduceEqDiff, not_false_eq_true, not_true_eq_false, bin_add, bin_sub, bin_mul, bin_eql, bin_neq, bin_lss, bin_leq, bin_gtr, bin_geq, bin_seql, bin_sneq, binb_eql, binb_neq, un_not, un_neg, pick_t, pick_f, mn_2, mx_2, len_nils, len_fs, len_row, eqa_2, bld2_int, lit2_int, decide_true, decide_false, Bool.not_true, Bool.not_false, Bool.false_eq_true, List.length_map, List.getD_cons_zero, List.getD_cons_succ, List.getD_nil, c26_r0, c26_r1, c26_r2, n1, n2, c26_r3, c26_r7, c26_r9, h1, c26_r11, gt_iff_lt, h2, c26_r13, FinQ_ret, res_t, cmpI]
theorem f25_spec (x y : Int) (hw : cx.wp ≤ H.length) : callF (T p23 p36) (ev (T p23 p36)) cx 25 [.fs [[.int .i64 x], [.int .i64 y]] true] H = some (.int .i64 (if x = 0 then y else x), H) := by
  refine callF_code2 (a := a25) rfl rfl hw (Nat.le_of_ble_eq_true rfl) rfl ?_
  simp only [a25, c25]
  have i0 : ixsM 1 (.fs [[.int .i64 x], [.int .i64 y]] true) (.int .i64 0) = some (.fptr [.int .i64 x]) := by simp [ixsM, act, opd]
  have i1 : ixsM 1 (.fs [[.int .i64 x], [.int .i64 y]] true) (.int .i64 1) = some (.fptr [.int .i64 y]) := by simp [ixsM, act, opd]
  have l0 : ∀ h x, ldM h false 1 (.fptr [x]) = some x := fun h x => by simp [ldM, partOf]
  have ln2 : lenM (.fs [[.int .i64 x], [.int .i64 y]] true) = some (.int .i64 2) := by simp [lenM]
  have x1 : ((0 : Int) < 2) = True := by simp
  have x2 : ((1 : Int) < 2) = True := by simp
  have x3 : ((2 : Int) < 2) = False := by simp
  have w1 : IntKind.i64.wrap (0 + 1) = 1 := wrap64 (by omega) (by omega)
  have w2 : IntKind.i64.wrap (1 + 1) = 2 := wrap64 (by omega) (by omega)
  simp (disch := omega) only [RK_seq, RK_region0, RK_block, RK_cond, RK_skip, RK_ret, RK_exit, RE_seq, RE_seq_exit, RE_seq_ret, RE_block, RE_block_ret, RE_block_exit, RE_nil, RO_mv, RO_len, RO_bin, RO_binb, RO_un, RO_pick, RO_ixs, RO_fld, RO_part, RO_ixa, RO_ixv, RO_eqa, RO_eqn, RO_mx2, RO_mn2, RO_build2, RO_lit0, RO_lit1, RO_lit2, RO_mkfn0, RO_mkfn1, RO_cap, RO_slice_l, RO_slice_h, RO_slice_lh, RO_box, RO_alloc, RO_store, RO_clear, RO_callv0, RO_callv1, RO_callv2, RO_append, RO_load, RO_callf0, RO_callf1, RO_callf2, RO_callf3, RO_callf4, RO_guard, RO_nil, put_fr, opd_t, opd_c, upd_eq', upd_ne, ne_eq, ↓OM_some, ↓OM_none, ↓CM_bool, ↓CB_true, ↓CB_false, ↓GM_t, ↓GM_f, ↓GM_tup, OM_some, OM_none, CM_bool, CB_true, CB_false, GM_t, GM_f, GM_tup, reduceIte, reduceCtorEq, Nat.reduceLT, Nat.reduceEqDiff, not_false_eq_true, not_true_eq_false, bin_add, bin_sub, bin_mul, bin_eql, bin_neq, bin_lss, bin_leq, bin_gtr, bin_geq, bin_seql, bin_sneq, binb_eql, binb_neq, un_not, un_neg, pick_t, pick_f, mn_2, mx_2, len_nils, len_fs, len_row, eqa_2, bld2_int, lit2_int, decide_true, decide_false, Bool.not_true, Bool.not_false, Bool.false_eq_true, List.length_map, List.getD_cons_zero, List.getD_cons_succ, List.getD_nil, c25_r0, c25_r1, c25_r2, ln2]
  rw [c25_l0, RK_loop, c25_lb0]
  by_cases h1 : x = 0
  · subst h1
    simp (disch := omega) only [RK_seq, RK_region0, RK_block, RK_cond, RK_skip, RK_ret, RK_exit, RE_seq, RE_seq_exit, RE_seq_ret, RE_block, RE_block_ret, RE_block_exit, RE_nil, RO_mv, RO_len, RO_bin, RO_binb, RO_un, RO_pick, RO_ixs, RO_fld, RO_part, RO_ixa, RO_ixv, RO_eqa, RO_eqn, RO_mx2, RO_mn2, RO_build2, RO_lit0, RO_lit1, RO_lit2, RO_mkfn0, RO_mkfn1, RO_cap, RO_slice_l, RO_slice_h, RO_slice_lh, RO_box, RO_alloc, RO_store, RO_clear, RO_callv0, RO_callv1, RO_callv2, RO_append, RO_load, RO_callf0, RO_callf1, RO_callf2, RO_callf3, RO_callf4, RO_guard, RO_nil, put_fr, opd_t, opd_c, upd_eq', upd_ne, ne_eq, ↓OM_some, ↓OM_none, ↓CM_bool, ↓CB_true, ↓CB_false, ↓GM_t, ↓GM_f, ↓GM_tup, OM_some, OM_none, CM_bool, CB_true, CB_false, GM_t, GM_f, GM_tup, reduceIte, reduceCtorEq, Nat.reduceLT, Nat.reduceEqDiff, not_false_eq_true, not_true_eq_false, bin_add, bin_sub, bin_mul, bin_eql, bin_neq, bin_lss, bin_leq, bin_gtr, bin_geq, bin_seql, bin_sneq, binb_eql, binb_neq, un_not, un_neg, pick_t, pick_f, mn_2, mx_2, len_nils, len_fs, len_row, eqa_2, bld2_int, lit2_int, decide_true, decide_false, Bool.not_true, Bool.not_false, Bool.false_eq_true, List.length_map, List.getD_cons_zero, List.getD_cons_succ, List.getD_nil, c25_r3, c25_r4, c25_r5, c25_r7, x1, i0, l0, w1, eq_self]
    rw [RK_loop]
    by_cases h2 : y = 0
    · subst h2
      simp (disch := omega) only [RK_seq, RK_region0, RK_block, RK_cond, RK_skip, RK_ret, RK_exit, RE_seq, RE_seq_exit, RE_seq_ret, RE_block, RE_block_ret, RE_block_exit, RE_nil, RO_mv, RO_len, RO_bin, RO_binb, RO_un, RO_pick, RO_ixs, RO_fld, RO_part, RO_ixa, RO_ixv, RO_eqa, RO_eqn, RO_mx2, RO_mn2, RO_build2, RO_lit0, RO_lit1, RO_lit2, RO_mkfn0, RO_mkfn1, RO_cap, RO_slice_l, RO_slice_h, RO_slice_lh, RO_box, RO_alloc, RO_store, RO_clear, RO_callv0, RO_callv1, RO_callv2, RO_append, RO_load, RO_callf0, RO_callf1, RO_callf2, RO_callf3, RO_callf4, RO_guard, RO_nil, put_fr, opd_t, opd_c, upd_eq', upd_ne, ne_eq, ↓OM_some, ↓OM_none, ↓CM_bool, ↓CB_true, ↓CB_false, ↓GM_t, ↓GM_f, ↓GM_tup, OM_some, OM_none, CM_bool, CB_true, CB_false, GM_t, GM_f, GM_tup, reduceIte, reduceCtorEq, Nat.reduceLT, Nat.reduceEqDiff, not_false_eq_true, not_true_eq_false, bin_add, bin_sub, bin_mul, bin_eql, bin_neq, bin_lss, bin_leq, bin_gtr, bin_geq, bin_seql, bin_sneq, binb_eql, binb_neq, un_not, un_neg, pick_t, pick_f, mn_2, mx_2, len_nils, len_fs, len_row, eqa_2, bld2_int, lit2_int, decide_true, decide_false, Bool.not_true, Bool.not_false, Bool.false_eq_true, List.length_map, List.getD_cons_zero, List.getD_cons_succ, List.getD_nil, c25_r3, c25_r4, c25_r5, c25_r7, x2, i1, l0, w2, eq_self]
      rw [RK_loop]
      simp (disch := omega) only [RK_seq, RK_region0, RK_block, RK_cond, RK_skip, RK_ret, RK_exit, RE_seq, RE_seq_exit, RE_seq_ret, RE_block, RE_block_ret, RE_block_exit, RE_nil, RO_mv, RO_len, RO_bin, RO_binb, RO_un, RO_pick, RO_ixs, RO_fld, RO_part, RO_ixa, RO_ixv, RO_eqa, RO_eqn, RO_mx2, RO_mn2, RO_build2, RO_lit0, RO_lit1, RO_lit2, RO_mkfn0, RO_mkfn1, RO_cap, RO_slice_l, RO_slice_h, RO_slice_lh, RO_box, RO_alloc, RO_store, RO_clear, RO_callv0, RO_callv1, RO_callv2, RO_append, RO_load, RO_callf0, RO_callf1, RO_callf2, RO_callf3, RO_callf4, RO_guard, RO_nil, put_fr, opd_t, opd_c, upd_eq', upd_ne, ne_eq, ↓OM_some, ↓OM_none, ↓CM_bool, ↓CB_true, ↓CB_false, ↓GM_t, ↓GM_f, ↓GM_tup, OM_some, OM_none, CM_bool, CB_true, CB_false, GM_t, GM_f, GM_tup, reduceIte, reduceCtorEq, Nat.reduceLT, Nat.reduceEqDiff, not_false_eq_true, not_true_eq_false, bin_add, bin_sub, bin_mul, bin_eql, bin_neq, bin_lss, bin_leq, bin_gtr, bin_geq, bin_seql, bin_sneq, binb_eql, binb_neq, un_not, un_neg, pick_t, pick_f, mn_2, mx_2, len_nils, len_fs, len_row, eqa_2, bld2_int, lit2_int, decide_true, decide_false, Bool.not_true, Bool.not_false, Bool.false_eq_true, List.length_map, List.getD_cons_zero, List.getD_cons_succ, List.getD_nil, c25_r3, x3, c25_r8, FinQ_ret, res_t, eq_self]
    · simp (disch := omega) only [RK_seq, RK_region0, RK_block, RK_cond, RK_skip, RK_ret, RK_exit, RE_seq, RE_seq_exit, RE_seq_ret, RE_block, RE_block_ret, RE_block_exit, RE_nil, RO_mv, RO_len, RO_bin, RO_binb, RO_un, RO_pick, RO_ixs, RO_fld, RO_part, RO_ixa, RO_ixv, RO_eqa, RO_eqn, RO_mx2, RO_mn2, RO_build2, RO_lit0, RO_lit1, RO_lit2, RO_mkfn0, RO_mkfn1, RO_cap, RO_slice_l, RO_slice_h, RO_slice_lh, RO_box, RO_alloc, RO_store, RO_clear, RO_callv0, RO_callv1, RO_callv2, RO_append, RO_load, RO_callf0, RO_callf1, RO_callf2, RO_callf3, RO_callf4, RO_guard, RO_nil, put_fr, opd_t, opd_c, upd_eq', upd_ne, ne_eq, ↓OM_some, ↓OM_none, ↓CM_bool, ↓CB_true, ↓CB_false, ↓GM_t, ↓GM_f, ↓GM_tup, OM_some, OM_none, CM_bool, CB_true, CB_false, GM_t, GM_f, GM_tup, reduceIte, reduceCtorEq, Nat.reduceLT, Nat.reduceEqDiff, not_false_eq_true, not_true_eq_false, bin_add, bin_sub, bin_mul, bin_eql, bin_neq, bin_lss, bin_leq, bin_gtr, bin_geq, bin_seql, bin_sneq, binb_eql, binb_neq, un_not, un_neg, pick_t, pick_f, mn_2, mx_2, len_nils, len_fs, len_row, eqa_2, bld2_int, lit2_int, decide_true, decide_false, Bool.not_true, Bool.not_false, Bool.false_eq_true, List.length_map, List.getD_cons_zero, List.getD_cons_succ, List.getD_nil, c25_r3, c25_r4, c25_r5, c25_r6, x2, i1, l0, h2, FinQ_ret, res_t, eq_self]
  · simp (disch := omega) only [RK_seq, RK_region0, RK_block, RK_cond, RK_skip, RK_ret, RK_exit, RE_seq, RE_seq_exit, RE_seq_ret, RE_block, RE_block_ret, RE_block_exit, RE_nil, RO_mv, RO_len, RO_bin, RO_binb, RO_un, RO_pick, RO_ixs, RO_fld, RO_part, RO_ixa, RO_ixv, RO_eqa, RO_eqn, RO_mx2, RO_mn2, RO_build2, RO_lit0, RO_lit1, RO_lit2, RO_mkfn0, RO_mkfn1, RO_cap, RO_slice_l, RO_slice_h, RO_slice_lh, RO_box, RO_alloc, RO_store, RO_clear, RO_callv0, RO_callv1, RO_callv2, RO_append, RO_load, RO_callf0, RO_callf1, RO_callf2, RO_callf3, RO_callf4, RO_guard, RO_nil, put_fr, opd_t, opd_c, upd_eq', upd_ne, ne_eq, ↓OM_some, ↓OM_none, ↓CM_bool, ↓CB_true, ↓CB_false, ↓GM_t, ↓GM_f, ↓GM_tup, OM_some, OM_none, CM_bool, CB_true, CB_false, GM_t, GM_f, GM_tup, reduceIte, reduceCtorEq, Nat.reduceLT, Nat.reduceEqDiff, not_false_eq_true, not_true_eq_false, bin_add, bin_sub, bin_mul, bin_eql, bin_neq, bin_lss, bin_leq, bin_gtr, bin_geq, bin_seql, bin_sneq, binb_eql, binb_neq, un_not, un_neg, pick_t, pick_f, mn_2, mx_2, len_nils, len_fs, len_row, eqa_2, bld2_int, lit2_int, decide_true, decide_false, Bool.not_true, Bool.not_false, Bool.false_eq_true, List.length_map, List.getD_cons_zero, List.getD_cons_succ, List.getD_nil, c25_r3, c25_r4, c25_r5, c25_r6, x1, i0, l0, h1, FinQ_ret, res_t]
theorem f24_spec (x y : Int × Int) (hw : cx.wp ≤ H.length) : callF (T p23 p36) (ev (T p23 p36)) cx 24 [valP x, valP y] H = some (.int .i64 (cmpP x y), H) := by
  refine callF_code2 (a := a24) rfl rfl hw (Nat.le_of_ble_eq_true rfl) rfl ?_
  simp only [a24, c24]
  have cx' : (valP x).cells = some (encP x) := rfl
  have cy' : (valP y).cells = some (encP y) := rfl
  generalize hh : H ++ [.cells 0 [encP x]] ++ [.cells 0 [encP y]] = h2
  have hl : H.length ≤ h2.length := by rw [← hh]; simp
  have b0 : h2[H.length]? = some (.cells 0 [encP x]) := by rw [← hh]; simp [List.getElem?_append]
  have b1 : h2[H.length + 1]? = some (.cells 0 [encP y]) := by rw [← hh]; simp [List.getElem?_append]
  have P1 : Pt h2 (.ref H.length 0 0 0) (encP x) := Pt.ref (es := [encP x]) (rdRow_of b0) (by simp)
  have P2 : Pt h2 (.ref (H.length + 1) 0 0 0) (encP y) := Pt.ref (es := [encP y]) (rdRow_of b1) (by simp)
  have a0 := P1.ixa0 (k := .i64) (len := 2) (z := 1) (by decide)
  have a1 := P1.ixa1 (k := .i64) (len := 2) (z := 1) (by decide) (by simp [encP])
  have a2 := P2.ixa0 (k := .i64) (len := 2) (z := 1) (by decide)
  have a3 := P2.ixa1 (k := .i64) (len := 2) (z := 1) (by decide) (by simp [encP])
  have l0 : ldM _ false 1 (elf 0 (.ref H.length 0 0 0)) = _ := P1.ldf (off := 0) (by simp) (ag := false) (n := 1)
  have l1 : ldM _ false 1 (elf 1 (.ref H.length 0 0 0)) = _ := P1.ldf (off := 1) (by simp [encP]) (ag := false) (n := 1)
  have l2 : ldM _ false 1 (elf 0 (.ref (H.length + 1) 0 0 0)) = _ := P2.ldf (off := 0) (by simp) (ag := false) (n := 1)
  have l3 : ldM _ false 1 (elf 1 (.ref (H.length + 1) 0 0 0)) = _ := P2.ldf (off := 1) (by simp [encP]) (ag := false) (n := 1)
  simp only [encP] at l0 l1 l2 l3
  rw [partP0] at l0 l2
  rw [partP1] at l1 l3
  have c1 := f26_spec (p23 := p23) (p36 := p36) (cx := ⟨H.length, none⟩) (H := h2) x.1 y.1 hl
  have c2 := f26_spec (p23 := p23) (p36 := p36) (cx := ⟨H.length, none⟩) (H := h2) x.2 y.2 hl
  have c3 := f25_spec (p23 := p23) (p36 := p36) (cx := ⟨H.length, none⟩) (H := h2) (cmpI x.1 y.1) (cmpI x.2 y.2) hl
  have e1 : (H ++ [Box.cells 0 [encP x]]).length = H.length + 1 := by simp
  simp (disch := omega) only [RK_seq, RK_region0, RK_block, RK_cond, RK_skip, RK_ret, RK_exit, RE_seq, RE_seq_exit, RE_seq_ret, RE_block, RE_block_ret, RE_block_exit, RE_nil, RO_mv, RO_len, RO_bin, RO_binb, RO_un, RO_pick, RO_ixs, RO_fld, RO_part, RO_ixa, RO_ixv, RO_eqa, RO_eqn, RO_mx2, RO_mn2, RO_build2, RO_lit0, RO_lit1, RO_lit2, RO_mkfn0, RO_mkfn1, RO_cap, RO_slice_l, RO_slice_h, RO_slice_lh, RO_box, RO_alloc, RO_store, RO_clear, RO_callv0, RO_callv1, RO_callv2, RO_append, RO_load, RO_callf0, RO_callf1, RO_callf2, RO_callf3, RO_callf4, RO_guard, RO_nil, put_fr, opd_t, opd_c, upd_eq', upd_ne, ne_eq, ↓OM_some, ↓OM_none, ↓CM_bool, ↓CB_true, ↓CB_false, ↓GM_t, ↓GM_f, ↓GM_tup, OM_some, OM_none, CM_bool, CB_true, CB_false, GM_t, GM_f, GM_tup, reduceIte, reduceCtorEq, Nat.reduceLT, Nat.reduceEqDiff, not_false_eq_true, not_true_eq_false, bin_add, bin_sub, bin_mul, bin_eql, bin_neq, bin_lss, bin_leq, bin_gtr, bin_geq, bin_seql, bin_sneq, binb_eql, binb_neq, un_not, un_neg, pick_t, pick_f, mn_2, mx_2, len_nils, len_fs, len_row, eqa_2, bld2_int, lit2_int, decide_true, decide_false, Bool.not_true, Bool.not_false, Bool.false_eq_true, List.length_map, List.getD_cons_zero, List.getD_cons_succ, List.getD_nil, c24_r0, cx', cy', e1, hh]
  simp (disch := omega) only [RK_seq, RK_region0, RK_block, RK_cond, RK_skip, RK_ret, RK_exit, RE_seq, RE_seq_exit, RE_seq_ret, RE_block, RE_block_ret, RE_block_exit, RE_nil, RO_mv, RO_len, RO_bin, RO_binb, RO_un, RO_pick, RO_ixs, RO_fld, RO_part, RO_ixa, RO_ixv, RO_eqa, RO_eqn, RO_mx2, RO_mn2, RO_build2, RO_lit0, RO_lit1, RO_lit2, RO_mkfn0, RO_mkfn1, RO_cap, RO_slice_l, RO_slice_h, RO_slice_lh, RO_box, RO_alloc, RO_store, RO_clear, RO_callv0, RO_callv1, RO_callv2, RO_append, RO_load, RO_callf0, RO_callf1, RO_callf2, RO_callf3, RO_callf4, RO_guard, RO_nil, put_fr, opd_t, opd_c, upd_eq', upd_ne, ne_eq, ↓OM_some, ↓OM_none, ↓CM_bool, ↓CB_true, ↓CB_false, ↓GM_t, ↓GM_f, ↓GM_tup, OM_some, OM_none, CM_bool, CB_true, CB_false, GM_t, GM_f, GM_tup, reduceIte, reduceCtorEq, Nat.reduceLT, Nat.reduceEqDiff, not_false_eq_true, not_true_eq_false, bin_add, bin_sub, bin_mul, bin_eql, bin_neq, bin_lss, bin_leq, bin_gtr, bin_geq, bin_seql, bin_sneq, binb_eql, binb_neq, un_not, un_neg, pick_t, pick_f, mn_2, mx_2, len_nils, len_fs, len_row, eqa_2, bld2_int, lit2_int, decide_true, decide_false, Bool.not_true, Bool.not_false, Bool.false_eq_true, List.length_map, List.getD_cons_zero, List.getD_cons_succ, List.getD_nil, c24_r1, a0, a1, a2, a3, l0, l1, l2, l3, c1, c2, c3, FinQ_ret, res_t, cmpP]
end Go.Proofs.Tryt17A
end
