import Derived.Test.YtlnnhldhhaooiaaA11

set_option linter.unusedVariables false
set_option linter.unusedSimpArgs false
set_option linter.unusedSectionVars false
set_option linter.unnecessarySimpa false

section
/- Appends. -/
namespace Go.AM
open Go

variable {Γ : Env} {wp : Nat} {κ κ' : K} {H : Heap} {w w' : World} {P : Program}

/-- There is room: the row's own cells are written. -/
theorem run_append_room {t tx ty e : TypeId} {z : Nat} (ht : P.underlying t = some (.slice e)) (hz : size P e = some z) {g off sLen sCap : Nat} {x : Value} {n : Nat} {news : List Value} (hs : Go.Src P z tx x n news w)
    (hroom : sLen + n ≤ sCap) {arr : Array Value} {T : TypeId} (hg : w.heap[g]? = some (.cells arr T (0, 0))) (hfit : off + sLen * z + news.length ≤ arr.size) :
    (Builtin.append_ #[t, tx] ty #[.slice (some ⟨g, off, none⟩) sLen sCap, x]).run P w = .ok (.slice (some ⟨g, off, none⟩) (sLen + n) sCap)
      (w.setRow g (arr.toList.take (off + sLen * z) ++ news ++ arr.toList.drop (off + sLen * z + news.length)).toArray) := by
  have hst := run_storeCells_at P g (off + sLen * z) T news 0 arr w hg (by omega) hs.one
  simp only [Nat.add_zero] at hst
  obtain ⟨i, hi, hiz⟩ := size_some hz
  rcases hs.kind with ⟨e', hk⟩ | hk <;> simp [Builtin.append_, run_underlying ht, run_underlying hk, sizeOf, typeInfo, hi, hiz, hs.len, hroom, hs.cells, Addr.add_lit, hst]

theorem run_append_room_none {t tx ty e : TypeId} {z : Nat} (ht : P.underlying t = some (.slice e)) (hz : size P e = some z) {a : Option Addr} {sLen sCap : Nat} {x : Value} {news : List Value} (hs : Go.Src P z tx x 0 news w)
    (hroom : sLen ≤ sCap) : (Builtin.append_ #[t, tx] ty #[.slice a sLen sCap, x]).run P w = .ok (.slice a sLen sCap) w := by
  obtain ⟨i, hi, hiz⟩ := size_some hz
  have hn : news = [] := List.eq_nil_of_length_eq_zero (by simpa using hs.newsLen)
  have hc := hs.cells
  subst hn
  cases a <;> rcases hs.kind with ⟨e', hk⟩ | hk <;> simp [Builtin.append_, run_underlying ht, run_underlying hk, sizeOf, typeInfo, hi, hiz, hs.len, hroom, hc, storeCells]

theorem zeroCells_size (z : Array Value) (n : Nat) : (Builtin.zeroCells z n).size = n * z.size := by simp [Builtin.zeroCells]

theorem mid_take {l vs : List Value} {p q : Nat} (hp : p + q ≤ l.length) : ((l.take (p + q) ++ vs ++ l.drop (p + q + vs.length)).drop p).take (q + vs.length) = (l.drop p).take q ++ vs := by
  have h1 : l.take (p + q) = l.take p ++ (l.drop p).take q := List.take_add
  have h2 : (l.take p).length = p := by simp; omega
  have h3 : ((l.drop p).take q).length = q := by simp; omega
  rw [h1, List.append_assoc, List.append_assoc, List.drop_left' h2, ← List.append_assoc, List.take_left' (by simp; omega)]

/-- A row grows. -/
theorem app_sound (hi : HInv Γ κ H w) {t tx ty e : TypeId} {zl : List AV} {bts : Nat} (ht : P.underlying t = some (.slice e)) (hz : zero P e = some zl) (hb : bytes P e = some bts) {sv xv : AV} {s x : Value} {i v o n c : Nat}
    (hs : V κ w (.row i v o n c zl.length) s) (hx : V κ w xv x) {src : AM.Src} (hsrc : srcOf zl.length xv = some src) (hk : (∃ e', P.underlying tx = some (.slice e')) ∨ P.underlying tx = some .string)
    {all new : List (List AV)} (hall : rdRow H i v = some all) (hnew : rdSrc H src = some new) (hon : o + n ≤ all.length) (hwp : wp ≤ i) :
    (n + new.length ≤ c → o + c ≤ all.length → Out Γ wp κ H w (H.set i (.cells v (all.take (o + n) ++ new ++ all.drop (o + n + new.length)))) (.row i v o (n + new.length) c zl.length) ((do pure (.value (← Builtin.append_ #[t, tx] ty #[s, x])) : Sem Next).run P w)) ∧
    (c < n + new.length → (n + new.length) * bts ≤ maxLn → n + new.length ≤ maxLn → Out Γ wp κ H w (H.set i (.cells (2 * v + 2) ((all.drop o).take n ++ new))) (.row i (2 * v + 2) 0 (n + new.length) (n + new.length) zl.length) ((do pure (.value (← Builtin.append_ #[t, tx] ty #[s, x])) : Sem Next).run P w)) := by
  obtain ⟨zv, z1, z2, z3, inf, z4, z5, z6⟩ := run_zero hz
  obtain ⟨inf', hi', hby⟩ := bytes_some hb
  rw [z4] at hi'
  injection hi' with hi'
  subst hi'
  generalize hZ : zl.length = z at *
  have hsz : size P e = some z := by rw [size_of_info z4, z6]
  obtain ⟨r1, us, hS, r2⟩ := src_sound hi hx hsrc hnew hk
  obtain ⟨g, b, cap, hkk, rfl, hnc, hcc, T', m, hsh, hm⟩ := hs
  obtain ⟨⟨arr, T, hg, hva⟩, hnf⟩ := hi.row hall hkk
  obtain ⟨q1, q2, q3⟩ := VA_flat.1 hva
  have hm' : b + (o + cap) * z ≤ arr.size := by
    simp only [World.shape?, hg] at hsh
    injection hsh with hsh
    injection hsh with _ hsh
    omega
  have hul : us.length = new.length * z := hS.newsLen
  have hofs : b + o * z + n * z = b + (o + n) * z := by rw [Nat.add_mul]; omega
  have hfit : ∀ k, n + k ≤ cap → b + o * z + n * z + k * z ≤ arr.size := by
    intro k hk
    have h1 : (o + (n + k)) * z ≤ (o + cap) * z := Nat.mul_le_mul_right z (by omega)
    simp only [Nat.add_mul] at h1 hm'
    omega
  constructor
  · intro hroom hoc
    have hrows : Rows z (all.take (o + n) ++ new ++ all.drop (o + n + new.length)) := ((q1.take _).append r1).append (q1.drop _)
    have hA : ((all.take (o + n)).flatten).length = (o + n) * z := by rw [flat_len (q1.take _).1, List.length_take, Nat.min_eq_left hon]
    have hfl : (all.take (o + n) ++ new ++ all.drop (o + n + new.length)).flatten = (all.take (o + n)).flatten ++ new.flatten ++ (all.drop (o + n + new.length)).flatten := by simp
    have hnl : new.flatten.length = us.length := r2.length
    have key := hi.rowSet hall hkk hg hva (es' := all.take (o + n) ++ new ++ all.drop (o + n + new.length)) (by simp; omega) hrows (o := (o + n) * z) (vs := us)
      (by rw [hul, ← Nat.add_mul]; exact Nat.mul_le_mul_right z (by omega))
      (by rw [hfl, List.append_assoc, List.drop_left' hA, List.take_left' hnl]; exact r2)
      (by rw [hfl, List.append_assoc, List.take_left' hA, flat_take q1.1])
      (by rw [hfl, List.drop_left' (by rw [List.length_append, hA, hnl]), hul, ← Nat.add_mul, flat_drop q1.1]) hwp
    refine ⟨_, _, _, .inl ?_, key.1, key.2, g, b, cap, hkk, rfl, hroom, hcc, T', m, key.1.shape _ _ hsh, hm⟩
    have hr := run_append_room (ty := ty) ht hsz hS (g := g) (off := b + o * z) (sLen := n) (sCap := cap) (by omega) hg (by rw [hul]; exact hfit _ (by omega))
    simp only [Sem.run_bind, hr, Result.andThen_ok, Sem.run_pure, hofs]
  · intro hroom hbt hmx
    have hes : ((all.drop o).take n).length = n := by simp; omega
    have hrows : Rows z ((all.drop o).take n ++ new) := ((q1.drop o).take n).append r1
    have hold : VL κ w ((all.drop o).take n).flatten ((arr.toList.drop (b + o * z)).take (n * z)) := by
      have := ((q3.drop (o * z)).take (n * z))
      rw [flat_drop q1.1, flat_take (q1.drop o).1, List.drop_take, List.take_take, List.drop_drop] at this
      rwa [Nat.min_eq_left (by
        have : (o + n) * z ≤ all.length * z := Nat.mul_le_mul_right z hon
        rw [Nat.add_mul] at this
        omega)] at this
    by_cases hcap : n + new.length ≤ cap
    · have hs2 : (arr.toList.take (b + o * z + n * z) ++ us ++ arr.toList.drop (b + o * z + n * z + us.length)).toArray.size = arr.size := by
        have := hfit _ hcap
        simp
        omega
      have hput := Put.setRow hg (arr.toList.take (b + o * z + n * z) ++ us ++ arr.toList.drop (b + o * z + n * z + us.length)).toArray
      have hheap := setRow_heap w g arr (arr.toList.take (b + o * z + n * z) ++ us ++ arr.toList.drop (b + o * z + n * z + us.length)).toArray T (0, 0) hg
      obtain ⟨hle, hh⟩ := hi.bump (rdRow_some hall) hkk (b' := b + o * z) (es' := (all.drop o).take n ++ new) hput (shape_put hg hheap hs2) hnf hwp fun hle => by
        intro g' b' z' hk'
        rw [K.add_self] at hk'
        injection hk' with hk'
        injection hk' with e1 e2
        injection e2 with e2 e3
        subst e1; subst e2; subst e3
        refine ⟨⟨_, T, hheap, VA_flat.2 ⟨hrows, ?_, ?_⟩⟩, hnf⟩
        · rw [hs2, List.length_append, hes, Nat.add_mul]
          have := hfit _ hcap
          omega
        · rw [List.length_append, hes, Nat.add_mul, ← hul]
          simp only []
          rw [mid_take (by have := hfit _ hcap; simp; omega), List.flatten_append]
          exact (VL.le hle _ _ hold).append (VL.le hle _ _ r2)
      refine ⟨_, _, _, .inl ?_, hle, hh, g, b + o * z, cap, K.add_self _ _ _ _, rfl, Nat.le_refl _, hcap, T', m, hle.shape _ _ hsh, by simp only [Nat.add_mul] at hm ⊢; omega⟩
      have hr := run_append_room (ty := ty) ht hsz hS (g := g) (off := b + o * z) (sLen := n) (sCap := cap) hcap hg (by rw [hul]; exact hfit _ hcap)
      simp only [Sem.run_bind, hr, Result.andThen_ok, Sem.run_pure, Nat.zero_mul, Nat.add_zero]
    · have hmx' : maxLn = 140737488355328 := rfl
      have hge := grownCap_ge w (n + new.length) cap e
      have holdc : (Builtin.firstCells inf.size n (.slice (some ⟨g, b + o * z, none⟩) n cap)).run P w.drew = .ok ((arr.toList.drop (b + o * z)).take (n * z)).toArray w.drew := by
        rw [z6]
        refine run_firstCells_some w.drew z n _ n cap _ ?_ fun j u hj => ?_
        · have := hfit 0 (by omega); simp; omega
        · rw [List.getElem?_take] at hj
          split at hj
          · rw [List.getElem?_drop, Array.getElem?_toList] at hj
            rw [Addr.add_lit]
            simp only [World.cell?, show w.drew.heap = w.heap from rfl, hg]
            simpa using hj
          · cases hj
      have hr := run_append_grow_src (P := P) w t tx ty e inf zv ht z4 z5 (some ⟨g, b + o * z, none⟩) n cap _ holdc x new.length us (by rw [z6]; exact hS) (by omega) (by omega) (growslice_fits (by omega) (by rw [hby]; omega))
      generalize hG : grownCap w (n + new.length) cap e = G at hr hge
      have hzl : zv.cells.size = z := by have := (z2 κ w).length; simp at this; omega
      have hol : ((arr.toList.drop (b + o * z)).take (n * z)).length = n * z := by have := hfit 0 (by omega); simp; omega
      have hvs : ((((arr.toList.drop (b + o * z)).take (n * z)) ++ us).toArray ++ Builtin.zeroCells zv.cells (G - (n + new.length))).size = G * z := by
        rw [Array.size_append, zeroCells_size, hzl, List.size_toArray, List.length_append, hol, hul, ← Nat.add_mul, ← Nat.add_mul]
        congr 1
        omega
      have hnw := New.drew_alloc w (.cells ((((arr.toList.drop (b + o * z)).take (n * z)) ++ us).toArray ++ Builtin.zeroCells zv.cells (G - (n + new.length))) e)
      obtain ⟨hle, hh⟩ := hi.move (z := z) (rdRow_some hall) hkk (es' := (all.drop o).take n ++ new) hnw hwp fun hle => by
        intro g' b' z' hk'
        rw [K.add_self] at hk'
        injection hk' with hk'
        injection hk' with e1 e2
        injection e2 with e2 e3
        subst e1; subst e2; subst e3
        refine ⟨⟨_, e, hnw.new, VA_flat.2 ⟨hrows, ?_, ?_⟩⟩, fun o ho => ?_⟩
        · rw [hvs, List.length_append, hes, Nat.zero_add]
          exact Nat.mul_le_mul_right _ hge
        · rw [List.length_append, hes, Nat.add_mul, ← hul, List.drop_zero, Array.toList_append, List.take_left' (by simp only []; rw [List.length_append, hol]), List.flatten_append]
          exact (VL.le hle _ _ hold).append (VL.le hle _ _ r2)
        · obtain ⟨u, h1⟩ := hi.frz _ _ ho
          exact absurd (lt_of_cell h1) (Nat.lt_irrefl _)
      refine ⟨_, _, _, .inl ?_, hle, hh, _, 0, G, K.add_self _ _ _ _, rfl, Nat.le_refl _, hge, e, G * z, ?_, by simp⟩
      · simp only [Sem.run_bind, hr, Result.andThen_ok, Sem.run_pure, Nat.zero_mul, Nat.add_zero]
      · simp only [World.shape?, hnw.new, hvs]

end Go.AM
end
