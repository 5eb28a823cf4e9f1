import Derived.Test.YtlnnhldhhaooiaaA13

set_option linter.unusedVariables false
set_option linter.unusedSimpArgs false
set_option linter.unusedSectionVars false
set_option linter.unnecessarySimpa false

section
/- Clearing; maps. -/
namespace Go.AM
open Go

variable {Γ : Env} {wp : Nat} {κ κ' : K} {H : Heap} {w w' : World} {P : Program}

theorem clear_none {t ty : TypeId} {e : TypeId} (ht : P.underlying t = some (.slice e)) (a : Option Addr) (c : Nat) : (Builtin.clear_ #[t] ty #[.slice a 0 c]).run P w = .ok (.tuple #[]) w := by
  cases a <;> simp [Builtin.clear_, run_underlying ht]

/-- A row's elements are made zero. -/
theorem clear_sound (hi : HInv Γ κ H w) {t ty e : TypeId} {zl : List AV} (ht : P.underlying t = some (.slice e)) (hz : zero P e = some zl) {s : Value} {i v o n c : Nat}
    (hs : V κ w (.row i v o n c zl.length) s) {all : List (List AV)} (hall : rdRow H i v = some all) (hon : o + n ≤ all.length) (hwp : wp ≤ i) :
    Out Γ wp κ H w (H.set i (.cells v (all.take o ++ List.replicate n zl ++ all.drop (o + n)))) (.tup []) ((do pure (.value (← Builtin.clear_ #[t] ty #[s])) : Sem Next).run P w) := by
  obtain ⟨zv, z1, z2, z3, inf, z4, z5, z6⟩ := run_zero hz
  obtain ⟨g, b, cap, hkk, rfl, hnc, hcc, T', m, hsh, hm⟩ := hs
  obtain ⟨⟨arr, T, hg, hva⟩, hnf⟩ := hi.row hall hkk
  obtain ⟨q1, q2, q3⟩ := VA_flat.1 hva
  have hzl : zv.cells.size = zl.length := by have := (z2 κ w).length; simp at this; omega
  have hzc : (Builtin.zeroCells zv.cells n).toList = (List.replicate n zv.cells.toList).flatten := zeros_list zv.cells n
  have r1 : Rows zl.length (List.replicate n zl) := Rows.replicate z3 rfl n
  have hvv : VL κ w (List.replicate n zl).flatten (Builtin.zeroCells zv.cells n).toList := by rw [hzc]; exact VL_replicate (z2 κ w) n
  have hvl : (Builtin.zeroCells zv.cells n).toList.length = n * zl.length := by rw [Array.length_toList, zeroCells_size, hzl]
  have hfit : (o + n) * zl.length ≤ all.length * zl.length := Nat.mul_le_mul_right _ hon
  rw [Nat.add_mul] at hfit
  have hA : ((all.take o).flatten).length = o * zl.length := by rw [flat_len (q1.take _).1, List.length_take, Nat.min_eq_left (by omega)]
  have hN : (List.replicate n zl).flatten.length = n * zl.length := by rw [hvv.length, hvl]
  have hfl : (all.take o ++ List.replicate n zl ++ all.drop (o + n)).flatten = (all.take o).flatten ++ (List.replicate n zl).flatten ++ (all.drop (o + n)).flatten := by simp
  have key := hi.rowSet hall hkk hg hva (es' := all.take o ++ List.replicate n zl ++ all.drop (o + n)) (by simp; omega) (((q1.take _).append r1).append (q1.drop _)) (o := o * zl.length) (vs := (Builtin.zeroCells zv.cells n).toList)
    (by rw [hvl]; exact hfit)
    (by rw [hfl, List.append_assoc, List.drop_left' hA, hvl, List.take_left' hN]; exact hvv)
    (by rw [hfl, List.append_assoc, List.take_left' hA, flat_take q1.1])
    (by rw [hfl, List.drop_left' (by rw [List.length_append, hA, hN, hvl]), hvl, ← Nat.add_mul, flat_drop q1.1]) hwp
  have hst := run_storeCells_at P g (b + o * zl.length) T (Builtin.zeroCells zv.cells n).toList 0 arr w hg (by rw [hvl]; omega) fun u hu => hvv.ones r1.2 u hu
  simp only [Nat.add_zero] at hst
  refine ⟨.tuple #[], _, _, .inl ?_, key.1, key.2, #[], rfl, rfl⟩
  cases n with
  | zero =>
    have h0 : (Builtin.zeroCells zv.cells 0).toList = [] := List.eq_nil_of_length_eq_zero (by rw [hvl]; simp)
    simp only [Sem.run_bind, clear_none ht, Result.andThen_ok, Sem.run_pure]
    rw [h0]
    simp only [List.append_nil, List.length_nil, Nat.add_zero, List.take_append_drop, Array.toArray_toList]
    rw [setRow_self w g arr T (0, 0) hg]
  | succ n => simp [Builtin.clear_, run_underlying ht, z1, hst]

/-! ### Maps -/
theorem reps_seg {m : List Nat} : ∀ (k : Nat) (l : List AV), l.map AV.kd = reps k m → ∀ i, i < k → ((l.drop (i * m.length)).take m.length).map AV.kd = m
  | 0, _, _, i, hi => by omega
  | k + 1, l, h, i, hi => by
    obtain ⟨a1, a2⟩ := kd_split h
    cases i with
    | zero => simpa using a1
    | succ i =>
      have := reps_seg k (l.drop m.length) a2 i (by omega)
      rwa [List.drop_drop, show m.length + i * m.length = (i + 1) * m.length from by rw [Nat.add_mul]; omega] at this

def PartAt (P : Program) (κ : K) (w : World) (t : TypeId) (ks : List Nat) (Q : Value → Prop) : Prop :=
  ∀ (as : List AV) (vs : Array Value) (off : Nat), as.all AV.one = true → VL κ w as vs.toList → ((as.drop off).take ks.length).map AV.kd = ks → ∃ x, (part t vs off).run P w = .ok x w ∧ Q x

theorem checkFields {em : Bool} {d : Nat} {k : TypeId → Option (List Nat)} : ∀ (fs : List Field) (acc : Nat) (ks : List Nat), kindsF k acc fs = some ks → (∀ f ∈ fs, ∀ m, k f.type = some m → PartAt P κ w f.type m fun x => (Instr.checkKey em d f.type x).run P w = .ok () w) →
    ∀ (as : List AV) (xs : Array Value), as.all AV.one = true → VL κ w as xs.toList → (as.drop acc).map AV.kd = ks →
    (forIn fs () fun f _ => do
      if f.name ≠ "_" then
        Instr.checkKey em d f.type (← part f.type xs f.offset)
        pure (ForInStep.yield ())
      else pure (ForInStep.yield ()) : Sem Unit).run P w = .ok () w
  | [], acc, ks, _, _, as, xs, _, _, _ => by simp
  | f :: fs, acc, ks, hl, hf, as, xs, o1, h1, h3 => by
    simp only [kindsF, Option.bind_eq_bind, Option.bind_eq_some_iff] at hl
    obtain ⟨m, hm, hl⟩ := hl
    split at hl
    · rename_i hoff
      obtain ⟨hoff, hn⟩ := hoff
      cases hk : kindsF k (acc + m.length) fs with
      | none => rw [hk] at hl; cases hl
      | some ks' =>
        rw [hk] at hl
        simp at hl
        subst hl
        obtain ⟨a1, a2⟩ := kd_split h3
        obtain ⟨x, p1, p2⟩ := hf f (by simp) m hm as xs acc o1 h1 a1
        rw [← hoff] at p1
        rw [List.drop_drop] at a2
        have ih := checkFields fs (acc + m.length) ks' hk (fun g hg => hf g (by simp [hg])) as xs o1 h1 a2
        simp only [List.forIn_cons, hn, ne_eq, not_false_eq_true, if_true, Sem.run_bind, p1, p2, Result.andThen_ok, Sem.run_pure]
        exact ih
    · cases hl

theorem part_some {t : TypeId} {ks : List Nat} {ds : TypeDesc} (hu : P.underlying t = some ds) (hn : size P t = some ks.length) {as : List AV} {vs : Array Value} {off : Nat} (h1 : VL κ w as vs.toList) (h3 : ((as.drop off).take ks.length).map AV.kd = ks) :
    ((∃ fs, ds = .struct fs) ∨ (∃ k e, ds = .array k e) → (part t vs off).run P w = .ok (.agg (vs.extract off (off + ks.length))) w) ∧
    ((∀ fs, ds ≠ .struct fs) → (∀ k e, ds ≠ .array k e) → ks.length = 1 → ∃ a x, as[off]? = some a ∧ V κ w a x ∧ (part t vs off).run P w = .ok x w) := by
  constructor
  · intro h
    have ha : isAg P t = some true := by rcases h with ⟨fs, rfl⟩ | ⟨k, e, rfl⟩ <;> simp [isAg, hu]
    simp [part, run_isAg ha, run_sizeOf hn]
  · intro hs1 hs2 h5
    have ha : isAg P t = some false := by
      cases ds <;> first | (exact absurd rfl (hs1 _)) | (exact absurd rfl (hs2 _ _)) | simp [isAg, hu]
    have l1 := seg_len h3
    simp only [List.length_drop] at l1
    have ha1 : as[off]? = some (as[off]'(by omega)) := List.getElem?_eq_getElem (by omega)
    obtain ⟨x, hx1, hx2⟩ := h1.get ha1
    refine ⟨_, x, ha1, hx2, ?_⟩
    have : vs[off]? = some x := by simpa using hx1
    simp [part, run_isAg ha, this]

/-- Keys are sound. -/
theorem checkKey_kinds {em : Bool} : ∀ (d : Nat) (t : TypeId) (ks : List Nat), kinds P d t = some ks → ∀ D, PartAt P κ w t ks fun x => (Instr.checkKey em (D + d) t x).run P w = .ok () w
  | 0, t, ks, h, _ => by simp [kinds] at h
  | d + 1, t, ks, h, D => by
    intro as vs off o1 h1 h3
    obtain ⟨ds, hu, hk, hn⟩ := kinds_some h
    obtain ⟨pa, po⟩ := part_some (P := P) hu hn h1 h3
    cases ds <;> simp only [kindsD] at hk <;> try (cases hk; done)
    case struct fs =>
      split at hk
      · cases hk
      · refine ⟨_, pa (.inl ⟨fs, rfl⟩), ?_⟩
        show (Instr.checkKey em ((D + d) + 1) t _).run P w = .ok () w; rw [Instr.checkKey]
        simp only [Sem.run_bind, run_underlying hu, Result.andThen_ok]
        rw [← Array.forIn_toList]
        exact congrArg (fun (r : Result Unit) => r.andThen fun _ w' => (pure () : Sem Unit).run P w') (checkFields (em := em) (d := D + d) fs.toList 0 ks hk (fun f _ m hm => checkKey_kinds d f.type m hm D) _ _ (all_seg o1 off _) (VL_extract h1 off _) (by simpa using h3))
    case array k e =>
      cases hke : kinds P d e with
      | none => rw [hke] at hk; cases hk
      | some m =>
        rw [hke] at hk
        simp at hk
        subst hk
        have hsz : size P e = some m.length := by
          cases d with
          | zero => simp [kinds] at hke
          | succ d => exact (kinds_some hke).choose_spec.2.2
        refine ⟨_, pa (.inr ⟨k, e, rfl⟩), ?_⟩
        show (Instr.checkKey em ((D + d) + 1) t _).run P w = .ok () w; rw [Instr.checkKey]
        simp only [Sem.run_bind, run_underlying hu, Result.andThen_ok]
        simp only [Std.Legacy.Range.forIn_eq_forIn_range', Std.Legacy.Range.size, Nat.sub_zero, Nat.add_one_sub_one, Nat.div_one]
        have each : ∀ i ∈ List.range' 0 k, ∃ x, (part e (vs.extract off (off + (reps k m).length)) (i * m.length)).run P w = .ok x w ∧ (Instr.checkKey em (D + d) e x).run P w = .ok () w := by
          intro i hi
          have hik : i < k := by simp at hi; omega
          exact checkKey_kinds d e m hke D _ _ _ (all_seg o1 off _) (VL_extract h1 off _) (reps_seg k _ h3 i hik)
        generalize List.range' 0 k = is at each
        induction is with
        | nil => simp
        | cons j is ih =>
          obtain ⟨x, p1, p2⟩ := each j (by simp)
          simp only [List.forIn_cons, Sem.run_bind, run_sizeOf hsz, Result.andThen_ok, p1, p2, Sem.run_pure]
          exact ih (fun y hy => each y (by simp [hy]))
    case bool =>
      injection hk with hk
      subst hk
      obtain ⟨a, x, _, _, p1⟩ := po (by simp) (by simp) rfl
      refine ⟨x, p1, ?_⟩
      show (Instr.checkKey em ((D + d) + 1) t _).run P w = .ok () w; rw [Instr.checkKey]
      cases x <;> simp [run_underlying hu]
    case int kk =>
      injection hk with hk
      subst hk
      obtain ⟨a, x, _, _, p1⟩ := po (by simp) (by simp) rfl
      refine ⟨x, p1, ?_⟩
      show (Instr.checkKey em ((D + d) + 1) t _).run P w = .ok () w; rw [Instr.checkKey]
      cases x <;> simp [run_underlying hu]
    case string =>
      injection hk with hk
      subst hk
      obtain ⟨a, x, _, _, p1⟩ := po (by simp) (by simp) rfl
      refine ⟨x, p1, ?_⟩
      show (Instr.checkKey em ((D + d) + 1) t _).run P w = .ok () w; rw [Instr.checkKey]
      cases x <;> simp [run_underlying hu]

/-- A key, as a part of its own cells. -/
theorem key_part {t : TypeId} {ks : List Nat} (h : keyKs P t = some ks) {k : AV} {key : Value} (hv : V κ w k key) (hk : k.kds = ks) :
    ∃ cs m, k.cells = some cs ∧ kinds P 8 t = some m ∧ cs.all AV.one = true ∧ VL κ w cs key.cells.toList ∧ cs.map AV.kd = m ∧ (part t key.cells 0).run P w = .ok key w := by
  simp only [keyKs, Option.bind_eq_bind, Option.bind_eq_some_iff] at h
  obtain ⟨m, hm, ag, ha, h⟩ := h
  have hsz : size P t = some m.length := (kinds_some hm).choose_spec.2.2
  have m7 : ∀ x ∈ m, x ≠ 7 ∨ True := fun _ _ => .inr trivial
  cases ag with
  | true =>
    simp at h
    subst h
    cases k <;> simp only [AV.kds, AV.kd] at hk <;> try (simp at hk; done)
    rename_i cs
    rw [List.cons.injEq] at hk
    obtain ⟨o1, vs, rfl, h2⟩ := hv
    have hl : vs.size = m.length := by rw [← hk.2]; have := h2.length; simp at this; simp [this]
    refine ⟨cs, m, rfl, hm, o1, h2, hk.2, ?_⟩
    simp [part, run_isAg ha, run_sizeOf hsz, Value.cells, ← hl]
  | false =>
    simp at h
    subst h
    have hno : k.one = true ∧ k.cells = some [k] ∧ [k.kd] = m := by
      cases k <;> simp only [AV.kds, AV.kd] at hk
      case agg cs =>
        exfalso
        obtain ⟨ds, hu, hd, _⟩ := kinds_some hm
        have hds : (∀ fs, ds ≠ .struct fs) ∧ (∀ k e, ds ≠ .array k e) := by
          constructor
          · rintro fs rfl; simp [isAg, hu] at ha
          · rintro k e rfl; simp [isAg, hu] at ha
        cases ds <;> simp only [kindsD] at hd <;> first
          | (cases hd; done)
          | (exact hds.1 _ rfl)
          | (exact hds.2 _ _ rfl)
          | (injection hd with hd; rw [← hd] at hk; simp at hk)
      all_goals first
        | exact ⟨rfl, rfl, hk⟩
        | (exfalso
           obtain ⟨ds, hu, hd, _⟩ := kinds_some hm
           have hds : (∀ fs, ds ≠ .struct fs) ∧ (∀ k e, ds ≠ .array k e) := by
             constructor
             · rintro fs rfl; simp [isAg, hu] at ha
             · rintro k e rfl; simp [isAg, hu] at ha
           cases ds <;> simp only [kindsD] at hd <;> first
             | (cases hd; done)
             | (exact hds.1 _ rfl)
             | (exact hds.2 _ _ rfl)
             | (injection hd with hd; rw [← hd] at hk; simp at hk))
    have hc : key.cells = #[key] := by
      have := V.one hv hno.1
      cases key <;> first | rfl | (simp [Value.oneCell'] at this; done)
    refine ⟨[k], m, hno.2.1, hm, by simp [hno.1], by rw [hc]; exact ⟨key, [], rfl, hv, rfl⟩, hno.2.2, ?_⟩
    simp [part, run_isAg ha, hc]

end Go.AM
end
