import Derived.Test.YtlnnhldhhaooiaaA12

set_option linter.unusedVariables false
set_option linter.unusedSimpArgs false
set_option linter.unusedSectionVars false
set_option linter.unnecessarySimpa false

section
/- New rows by append; copies; clearing. -/
namespace Go.AM
open Go

variable {Γ : Env} {wp : Nat} {κ κ' : K} {H : Heap} {w w' : World} {P : Program}

/-- A new row of what was there and what is appended. -/
theorem newrow_sound (hi : HInv Γ κ H w) {e : TypeId} {z : Nat} {es' : List (List AV)} {vs : List Value} (hr : Rows z es') (hv : VL κ w es'.flatten vs) {rest : Array Value} {G : Nat} (hge : es'.length ≤ G) (hsz : (vs.toArray ++ rest).size = G * z) {r : Result Next}
    (hrun : r = .ok (.value (.slice (some ⟨w.heap.size, 0, none⟩) es'.length G)) (w.drew.alloc (.cells (vs.toArray ++ rest) e))) :
    Out Γ wp κ H w (H ++ [.cells 0 es']) (.row H.length 0 0 es'.length es'.length z) r := by
  have hnw := New.drew_alloc w (.cells (vs.toArray ++ rest) e)
  have hvl : vs.length = es'.length * z := by rw [← hv.length, flat_len hr.1]
  obtain ⟨hle, hh⟩ := hi.pushRow (wp := wp) hnw (z := z) (es := es') hr (by rw [hsz]; exact Nat.mul_le_mul_right z hge) (by
    rw [Array.toList_append, List.take_left' (by simp only []; exact hvl)]; exact hv)
  exact ⟨_, _, _, .inl hrun, hle, hh, V_row_new hnw.new (Nat.le_refl _) hge (Nat.le_of_eq hsz.symm)⟩

theorem appnew_sound (hi : HInv Γ κ H w) {t tx ty e : TypeId} {zl : List AV} {bts : Nat} (ht : P.underlying t = some (.slice e)) (hz : zero P e = some zl) (hb : bytes P e = some bts) {s0 xv : AV} {s x : Value} {es : List (List AV)}
    (hs : V κ w s0 s) (h0 : s0 = .nils ∧ es = [] ∨ s0 = .fs es true ∧ es.all (fun e => e.length == zl.length) = true) (hx : V κ w xv x) {src : AM.Src} (hsrc : srcOf zl.length xv = some src) (hk : (∃ e', P.underlying tx = some (.slice e')) ∨ P.underlying tx = some .string)
    {new : List (List AV)} (hnew : rdSrc H src = some new) (hmx : (es.length + new.length) * bts ≤ maxLn) (hm : es.length + new.length ≤ maxLn) :
    (new.length = 0 → Out Γ wp κ H w H s0 ((do pure (.value (← Builtin.append_ #[t, tx] ty #[s, x])) : Sem Next).run P w)) ∧
    (new.length ≠ 0 → Out Γ wp κ H w (H ++ [.cells 0 (es ++ new)]) (.row H.length 0 0 (es.length + new.length) (es.length + new.length) zl.length) ((do pure (.value (← Builtin.append_ #[t, tx] ty #[s, x])) : Sem Next).run P w)) := by
  obtain ⟨zv, z1, z2, z3, inf, z4, z5, z6⟩ := run_zero hz
  obtain ⟨inf', hi', hby⟩ := bytes_some hb
  rw [z4] at hi'
  injection hi' with hi'
  subst hi'
  generalize hZ : zl.length = z at *
  have hsz : size P e = some z := by rw [size_of_info z4, z6]
  obtain ⟨r1, us, hS, r2⟩ := src_sound hi hx hsrc hnew hk
  have hmx' : maxLn = 140737488355328 := rfl
  have hzl : zv.cells.size = z := by have := (z2 κ w).length; simp at this; omega
  obtain ⟨a, cap, hsv, hcap, olds, _, hrw, hov, holds⟩ : ∃ a cap, s = .slice a es.length cap ∧ cap = es.length ∧ ∃ olds : List Value, (∀ w : World, (Builtin.firstCells z 0 (.slice a 0 0)).run P w = .ok #[] w) ∧ Rows z es ∧ VL κ w es.flatten olds ∧
      (Builtin.firstCells z es.length (.slice a es.length cap)).run P w.drew = .ok olds.toArray w.drew := by
    have onil : ∀ (a : Option Addr), ∀ w : World, (Builtin.firstCells z 0 (.slice a 0 0)).run P w = .ok (#[] : Array Value) w := by
      intro a w
      cases a with
      | none => rfl
      | some a => simpa using run_firstCells_some (P := P) w z 0 a 0 0 [] (by simp) (by simp)
    rcases h0 with ⟨rfl, rfl⟩ | ⟨rfl, hall⟩
    · cases hs
      exact ⟨none, 0, rfl, rfl, [], onil _, Rows.nil z, rfl, rfl⟩
    · obtain ⟨a, z', cap, rfl, h1, h2, h3, h4⟩ := hs
      refine ⟨some a, cap, rfl, h2 rfl, ?_⟩
      have hcp := h2 rfl
      subst hcp
      cases hes : es with
      | nil => exact ⟨[], onil _, Rows.nil z, rfl, onil _ _⟩
      | cons e1 es1 =>
        rw [← hes]
        have hne : es ≠ [] := by rw [hes]; simp
        have ha : a = ⟨a.block, a.off, none⟩ := by have := h3 hne; cases a; simp_all
        obtain ⟨p1, vs, p2, p3⟩ := CA_of_VR h4
        have hzz : z' = z := by
          have q1 := p1.1 e1 (by rw [hes]; simp)
          have q2 := List.all_eq_true.1 hall e1 (by rw [hes]; simp)
          simp at q2
          omega
        subst hzz
        have hl : vs.length = es.length * z' := by rw [← p2.length, flat_len p1.1]
        exact ⟨vs, onil _, p1, p2, run_firstCells_some w.drew z' es.length a es.length es.length vs hl fun j u hj => by
          rw [ha, Addr.add_lit]; exact p3 j u hj⟩
  subst hsv; subst hcap
  constructor
  · intro hn
    rw [hn] at hS
    refine ⟨_, κ, w, .inl ?_, Le.refl κ w, ⟨Fr.refl _ _ _ _, hi⟩, hs⟩
    simp only [Sem.run_bind, run_append_room_none (ty := ty) ht hsz hS (Nat.le_refl _), Result.andThen_ok, Sem.run_pure]
  · intro hn
    have hr := run_append_grow_src (P := P) w t tx ty e inf zv ht z4 z5 a es.length es.length olds (by rw [z6]; exact holds) x new.length us (by rw [z6]; exact hS) (by omega) (by omega) (growslice_fits (by omega) (by rw [hby]; omega))
    have hge := grownCap_ge w (es.length + new.length) es.length e
    generalize hG : grownCap w (es.length + new.length) es.length e = G at hr hge
    have hol : olds.length = es.length * z := by rw [← hov.length, flat_len hrw.1]
    have key := newrow_sound (wp := wp) hi (e := e) (es' := es ++ new) (vs := olds ++ us) (hrw.append r1) (by rw [List.flatten_append]; exact hov.append r2) (rest := Builtin.zeroCells zv.cells (G - (es.length + new.length))) (G := G) (by rw [List.length_append]; exact hge)
      (by
        rw [Array.size_append, zeroCells_size, hzl, List.size_toArray, List.length_append, hol, hS.newsLen, ← Nat.add_mul, ← Nat.add_mul]
        congr 1
        omega)
      (r := (do pure (.value (← Builtin.append_ #[t, tx] ty #[.slice a es.length es.length, x])) : Sem Next).run P w)
      (by simp only [Sem.run_bind, hr, Result.andThen_ok, Sem.run_pure, List.length_append])
    simpa only [List.length_append] using key

/-- Zeros are appended to nothing. -/
theorem appz_sound (hi : HInv Γ κ H w) {t tn ty e : TypeId} {zl : List AV} {bts : Nat} (ht : P.underlying t = some (.slice e)) {kn : IntKind} (htn : P.underlying tn = some (.int kn)) (hz : zero P e = some zl) (hb : bytes P e = some bts) (hz0 : zl.length ≠ 0)
    {k : IntKind} {n : Int} (h0 : 0 < n) (hmx : n * bts ≤ maxLn) (hm : n ≤ maxLn) :
    Out Γ wp κ H w (H ++ [.cells 0 (List.replicate n.toNat zl)]) (.row H.length 0 0 n.toNat n.toNat zl.length) ((do pure (.value (← Builtin.append_ #[t, tn] ty #[.slice none 0 0, .int k n])) : Sem Next).run P w) := by
  obtain ⟨zv, z1, z2, z3, inf, z4, z5, z6⟩ := run_zero hz
  obtain ⟨inf', hi', hby⟩ := bytes_some hb
  rw [z4] at hi'
  injection hi' with hi'
  subst hi'
  have hmx' : maxLn = 140737488355328 := rfl
  have hzl : zv.cells.size = zl.length := by have := (z2 κ w).length; simp at this; omega
  obtain ⟨m, rfl⟩ : ∃ m : Nat, n = m := ⟨n.toNat, by omega⟩
  rw [← Int.natCast_mul] at hmx
  have hr := Lib.run_append_nil_zeros (P := P) w t tn ty e inf zv k kn ht htn z4 z5 m (by omega) (by omega) (by omega) (by rw [hby]; omega)
  have hge := grownCap_ge w m 0 e
  generalize hG : grownCap w m 0 e = G at hr hge
  have hzc : (Builtin.zeroCells zv.cells m).toList = (List.replicate m zv.cells.toList).flatten := zeros_list zv.cells m
  have key := newrow_sound (wp := wp) hi (e := e) (es' := List.replicate m zl) (vs := (Builtin.zeroCells zv.cells m).toList) (Rows.replicate z3 rfl m) (by rw [hzc]; exact VL_replicate (z2 κ w) m) (rest := Builtin.zeroCells zv.cells (G - m)) (G := G) (by simpa using hge)
    (by
      rw [Array.toArray_toList, Array.size_append, zeroCells_size, zeroCells_size, hzl, ← Nat.add_mul]
      congr 1
      omega)
    (r := (do pure (.value (← Builtin.append_ #[t, tn] ty #[.slice none 0 0, .int k (m : Int)])) : Sem Next).run P w)
    (by simp only [Sem.run_bind, hr, Result.andThen_ok, Sem.run_pure, List.length_replicate, Array.toArray_toList])
  simpa only [List.length_replicate, Int.toNat_natCast] using key

/-- The first elements of what is copied. -/
theorem src_first (hi : HInv Γ κ H w) {z : Nat} {xv : AV} {x : Value} (hx : V κ w xv x) {src : AM.Src} (hs : srcOf z xv = some src) {new : List (List AV)} (hn : rdSrc H src = some new) :
    Rows z new ∧ ∃ us, VL κ w new.flatten us ∧ (Builtin.lenOf x).run P w = .ok new.length w ∧ ∀ k, k ≤ new.length → (Builtin.firstCells z k x).run P w = .ok (us.take (k * z)).toArray w := by
  have onil : ∀ (a : Option Addr) (c : Nat), (Builtin.firstCells z 0 (.slice a 0 c)).run P w = .ok (#[] : Array Value) w := by
    intro a c
    cases a with
    | none => rfl
    | some a => simpa using run_firstCells_some (P := P) w z 0 a 0 c [] (by simp) (by simp)
  have nil : ∀ (a : Option Addr) (c : Nat), Rows z [] ∧ ∃ us, VL κ w (List.flatten []) us ∧ (Builtin.lenOf (.slice a 0 c)).run P w = .ok (List.length (α := List AV) []) w ∧ ∀ k, k ≤ (List.length (α := List AV) []) → (Builtin.firstCells z k (.slice a 0 c)).run P w = .ok (us.take (k * z)).toArray w :=
    fun a c => ⟨Rows.nil z, [], rfl, rfl, fun k hk => by
      have : k = 0 := by simpa using hk
      subst this
      simpa using onil a c⟩
  have some' : ∀ (g o c : Nat) (es : List (List AV)), Rows z es → CA κ w g o es.flatten → ∃ us, VL κ w es.flatten us ∧ (Builtin.lenOf (.slice (some ⟨g, o, none⟩) es.length c)).run P w = .ok es.length w ∧ ∀ k, k ≤ es.length → (Builtin.firstCells z k (.slice (some ⟨g, o, none⟩) es.length c)).run P w = .ok (us.take (k * z)).toArray w := by
    intro g o c es hr hc
    obtain ⟨us, r2, r3⟩ := hc
    refine ⟨us, r2, rfl, fun k hk => run_firstCells_some w z k _ es.length c _ ?_ fun j u hj => ?_⟩
    · have hl : us.length = es.length * z := by rw [← r2.length, flat_len hr.1]
      rw [List.length_take, hl, Nat.min_eq_left (Nat.mul_le_mul_right z hk)]
    · rw [List.getElem?_take] at hj
      split at hj
      · rw [Addr.add_lit]; exact r3 j u hj
      · cases hj
  cases xv <;> simp only [srcOf] at hs <;> try (cases hs; done)
  case nils =>
    injection hs with hs
    subst hs
    simp only [rdSrc] at hn
    injection hn with hn
    subst hn
    cases hx
    exact nil _ _
  case fs es full =>
    split at hs
    · rename_i hall
      injection hs with hs
      subst hs
      simp only [rdSrc] at hn
      injection hn with hn
      subst hn
      obtain ⟨a, z', cap, rfl, h1, h2, h3, h4⟩ := hx
      cases hes : es with
      | nil => exact nil _ _
      | cons e1 es1 =>
        rw [← hes]
        have hne : es ≠ [] := by rw [hes]; simp
        have ha : a = ⟨a.block, a.off, none⟩ := by have := h3 hne; cases a; simp_all
        obtain ⟨r1, hc⟩ := CA_of_VR h4
        have hz : z' = z := by
          have q1 := r1.1 e1 (by rw [hes]; simp)
          have q2 := List.all_eq_true.1 hall e1 (by rw [hes]; simp)
          simp at q2
          omega
        subst hz
        rw [ha]
        exact ⟨r1, some' _ _ _ _ r1 hc⟩
    · cases hs
  case row i v o n c zr =>
    split at hs
    · rename_i hz
      subst hz
      injection hs with hs
      subst hs
      simp only [rdSrc] at hn
      obtain ⟨g, b, cap, hk', rfl, _⟩ := hx
      obtain ⟨r1, r4, hc⟩ := rdEls_CA hi hk' hn
      rw [← r4]
      exact ⟨r1, some' _ _ _ _ r1 hc⟩
    · cases hs
  case str s =>
    split at hs
    · rename_i hz
      subst hz
      injection hs with hs
      subst hs
      simp only [rdSrc] at hn
      injection hn with hn
      subst hn
      obtain ⟨s', rfl, rfl⟩ := hx
      refine ⟨byteEls_rows _, byteCells s', ?_, ?_, fun k hk => ?_⟩
      · have := VL_bytes (κ := κ) (w := w) s'.data.toList
        rw [← byteEls_flat] at this
        exact this
      · simp [Builtin.lenOf]
      · have hk' : k ≤ s'.size := by simpa using hk
        simp only [Builtin.firstCells, Sem.run_pure, byteCells, Nat.mul_one]
        congr 1
        apply Array.ext'
        simp [ByteArray.extract, ByteArray.copySlice, List.map_take]
    · cases hs

/-- Elements are copied into a row. -/
theorem copy_sound (hi : HInv Γ κ H w) {t tx ty e : TypeId} {z : Nat} (ht : P.underlying t = some (.slice e)) (hz : size P e = some z) {xv : AV} {s x : Value} {i v o n c : Nat}
    (hs : V κ w (.row i v o n c z) s) (hx : V κ w xv x) {src : AM.Src} (hsrc : srcOf z xv = some src)
    {all new : List (List AV)} (hall : rdRow H i v = some all) (hnew : rdSrc H src = some new) (hon : o + n ≤ all.length) (hwp : wp ≤ i) :
    Out Γ wp κ H w (H.set i (.cells v (all.take o ++ new.take (min n new.length) ++ all.drop (o + min n new.length)))) (.int .i64 (min n new.length : Nat)) ((do pure (.value (← Builtin.copy_ #[t, tx] ty #[s, x])) : Sem Next).run P w) := by
  obtain ⟨r1, us, r2, hlen, hfc⟩ := src_first (P := P) hi hx hsrc hnew
  obtain ⟨g, b, cap, hkk, rfl, hnc, hcc, T', m, hsh, hm⟩ := hs
  obtain ⟨⟨arr, T, hg, hva⟩, hnf⟩ := hi.row hall hkk
  obtain ⟨q1, q2, q3⟩ := VA_flat.1 hva
  generalize hM : min n new.length = M
  have hMn : M ≤ n := by omega
  have hMl : M ≤ new.length := by omega
  have hul : us.length = new.length * z := by rw [← r2.length, flat_len r1.1]
  have hMz : M * z ≤ new.length * z := Nat.mul_le_mul_right z hMl
  have hvl : (us.take (M * z)).length = M * z := by rw [List.length_take, hul, Nat.min_eq_left hMz]
  have hvv : VL κ w (new.take M).flatten (us.take (M * z)) := by rw [← flat_take r1.1]; exact r2.take _
  have hfit : (o + M) * z ≤ all.length * z := Nat.mul_le_mul_right z (by omega)
  rw [Nat.add_mul] at hfit
  have hA : ((all.take o).flatten).length = o * z := by rw [flat_len (q1.take _).1, List.length_take, Nat.min_eq_left (by omega)]
  have hN : (new.take M).flatten.length = M * z := by rw [hvv.length, hvl]
  have hfl : (all.take o ++ new.take M ++ all.drop (o + M)).flatten = (all.take o).flatten ++ (new.take M).flatten ++ (all.drop (o + M)).flatten := by simp
  have key := hi.rowSet hall hkk hg hva (es' := all.take o ++ new.take M ++ all.drop (o + M)) (by simp; omega) (((q1.take _).append (r1.take _)).append (q1.drop _)) (o := o * z) (vs := us.take (M * z))
    (by rw [hvl]; exact hfit)
    (by rw [hfl, List.append_assoc, List.drop_left' hA, hvl, List.take_left' hN]; exact hvv)
    (by rw [hfl, List.append_assoc, List.take_left' hA, flat_take q1.1])
    (by rw [hfl, List.drop_left' (by rw [List.length_append, hA, hN, hvl]), hvl, ← Nat.add_mul, flat_drop q1.1]) hwp
  refine ⟨_, _, _, .inl ?_, key.1, key.2, rfl⟩
  have hst := run_storeCells_at P g (b + o * z) T (us.take (M * z)) 0 arr w hg (by rw [hvl]; omega) fun u hu => r2.ones r1.2 u (List.mem_of_mem_take hu)
  simp only [Nat.add_zero] at hst
  have hmin : Nat.min new.length n = M := by rw [← hM]; exact Nat.min_comm _ _
  have h1 := hfc M hMl
  simp only [Builtin.copy_, Sem.run_bind, run_underlying ht, Result.andThen_ok, hlen, run_sizeOf hz, hmin]
  simp [run_underlying ht, hlen, run_sizeOf hz, hmin, h1, hst, goInt]

end Go.AM
end
