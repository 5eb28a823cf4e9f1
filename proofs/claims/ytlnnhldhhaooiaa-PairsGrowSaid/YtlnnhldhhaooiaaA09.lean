import Derived.Test.YtlnnhldhhaooiaaA08

set_option linter.unusedVariables false
set_option linter.unusedSimpArgs false
set_option linter.unusedSectionVars false
set_option linter.unnecessarySimpa false

section
/- Structs, literals, makes, appends, copies. -/
namespace Go.AM
open Go

variable {Γ : Env} {wp : Nat} {κ κ' : K} {H : Heap} {w w' : World} {P : Program}

theorem size_of_info {t : TypeId} {i : TypeInfo} (h : P.info? t = some i) : size P t = some i.size := by simp [size, h]

/-- Parts of a struct: what the operands are. -/
theorem parts_some {fs : Array Field} : ∀ {ps : List (Nat × Operand)} {qs : List (Nat × Nat × Opd)}, parts P fs ps = some qs → ps.length = qs.length ∧
    ∀ (j i : Nat) (x : Operand) (off n : Nat) (y : Opd), ps[j]? = some (i, x) → qs[j]? = some (off, n, y) → trO x = some y ∧ ∃ f, fs[i]? = some f ∧ f.offset = off ∧ size P f.type = some n
  | [], qs, h => by simp [parts] at h; subst h; simp
  | (i, x) :: ps, qs, h => by
    simp only [parts, Option.bind_eq_bind, Option.bind_eq_some_iff] at h
    obtain ⟨f, hf, n, hn, y, hy, r, hr, h⟩ := h
    injection h with h
    subst h
    obtain ⟨h1, h2⟩ := parts_some hr
    refine ⟨by simp [h1], fun j i' x' off n' y' e1 e2 => ?_⟩
    cases j with
    | zero => simp at e1 e2; obtain ⟨rfl, rfl⟩ := e1; obtain ⟨rfl, rfl, rfl⟩ := e2; exact ⟨hy, f, hf, rfl, hn⟩
    | succ j => exact h2 j i' x' off n' y' (by simpa using e1) (by simpa using e2)

theorem partsA_some {z : Nat} : ∀ {ps : List (Nat × Operand)} {qs : List (Nat × Nat × Opd)}, partsA z ps = some qs → ps.length = qs.length ∧
    ∀ (j i : Nat) (x : Operand) (off n : Nat) (y : Opd), ps[j]? = some (i, x) → qs[j]? = some (off, n, y) → trO x = some y ∧ off = i * z ∧ n = z
  | [], qs, h => by simp [partsA] at h; subst h; simp
  | (i, x) :: ps, qs, h => by
    simp only [partsA, Option.bind_eq_bind, Option.bind_eq_some_iff] at h
    obtain ⟨y, hy, r, hr, h⟩ := h
    injection h with h
    subst h
    obtain ⟨h1, h2⟩ := partsA_some hr
    refine ⟨by simp [h1], fun j i' x' off n' y' e1 e2 => ?_⟩
    cases j with
    | zero => simp at e1 e2; obtain ⟨rfl, rfl⟩ := e1; obtain ⟨rfl, rfl, rfl⟩ := e2; exact ⟨hy, rfl, rfl⟩
    | succ j => exact h2 j i' x' off n' y' (by simpa using e1) (by simpa using e2)

theorem partsS_some : ∀ {ps : List (Nat × Operand)} {qs : List (Nat × Opd)}, partsS ps = some qs → ps.length = qs.length ∧
    ∀ (j i : Nat) (x : Operand) (i' : Nat) (y : Opd), ps[j]? = some (i, x) → qs[j]? = some (i', y) → trO x = some y ∧ i' = i
  | [], qs, h => by simp [partsS] at h; subst h; simp
  | (i, x) :: ps, qs, h => by
    simp only [partsS, Option.bind_eq_bind, Option.bind_eq_some_iff] at h
    obtain ⟨y, hy, r, hr, h⟩ := h
    injection h with h
    subst h
    obtain ⟨h1, h2⟩ := partsS_some hr
    refine ⟨by simp [h1], fun j i' x' i'' y' e1 e2 => ?_⟩
    cases j with
    | zero => simp at e1 e2; obtain ⟨rfl, rfl⟩ := e1; obtain ⟨rfl, rfl⟩ := e2; exact ⟨hy, rfl⟩
    | succ j => exact h2 j i' x' i'' y' (by simpa using e1) (by simpa using e2)

theorem places_some {fs : List Field} (h : fs.all (fun f => (size P f.type).isSome) = true) :
    ∃ pl, fs.mapM (fun f => (P.info? f.type).map fun i => (f.offset, i.size)) = some pl ∧ ∀ (j : Nat) (f : Field) (n : Nat), fs[j]? = some f → size P f.type = some n → pl[j]? = some (f.offset, n) := by
  induction fs with
  | nil => exact ⟨[], rfl, fun j f n hj => by simp at hj⟩
  | cons f fs ih =>
    simp only [List.all_cons, Bool.and_eq_true] at h
    obtain ⟨pl, h1, h2⟩ := ih h.2
    cases hs : size P f.type with
    | none => rw [hs] at h; simp at h
    | some m =>
      obtain ⟨i, hi, him⟩ := size_some hs
      refine ⟨(f.offset, m) :: pl, by simp [List.mapM_cons, hi, him, h1], fun j g n hj hn => ?_⟩
      cases j with
      | zero => simp at hj; subst hj; rw [hs] at hn; injection hn with hn; subst hn; rfl
      | succ j => simpa using h2 j g n (by simpa using hj) hn

theorem build_sound {t : TypeId} {ps : Array (Nat × Operand)} {z : List AV} {qs : List (Nat × Nat × Opd)} {fr : List AV} {ρ : Operand → Value} (hz : zero P t = some z)
    (hp : (∃ fs, P.underlying t = some (.struct fs) ∧ fs.toList.all (fun f => (size P f.type).isSome) = true ∧ parts P fs ps.toList = some qs) ∨ (∃ n e m, P.underlying t = some (.array n e) ∧ size P e = some m ∧ partsA m ps.toList = some qs))
    (hρ : ∀ (x : Operand) (y : Opd), trO x = some y → V κ w (opd fr y) (ρ x)) {cs : List AV} (h : fill z (mkParts fr qs) = some cs) :
    ∃ u, (Instr.build t (ps.map fun (i, x) => (i, ρ x))).run P w = .ok u w ∧ V κ w (.agg cs) u := by
  obtain ⟨zv, h1, h2, h3, i, h4, h5, h6⟩ := run_zero hz
  have fin : ∀ place : Nat → Option (Nat × Nat), ps.toList.length = qs.length →
      (∀ (j i : Nat) (x : Operand) (off n : Nat) (y : Opd), ps.toList[j]? = some (i, x) → qs[j]? = some (off, n, y) → trO x = some y ∧ place i = some (off, n)) →
      ∃ out, Instr.fill place zv.cells (ps.map fun (i, x) => (i, ρ x)).toList = some out ∧ V κ w (.agg cs) (.agg out) := by
    intro place hlen hpl
    obtain ⟨out, o1, o2, o3⟩ := fill_sound (κ := κ) (w := w) (place := place) (ps.map fun (i, x) => (i, ρ x)).toList (mkParts fr qs) z zv.cells cs h3 (h2 κ w) (by simpa [mkParts] using hlen)
      (fun j i v off n a e1 e2 => by
        simp only [Array.toList_map, List.getElem?_map, Option.map_eq_some_iff, mkParts] at e1 e2
        obtain ⟨⟨i', x⟩, e3, e4⟩ := e1
        obtain ⟨⟨off', n', y⟩, e5, e6⟩ := e2
        injection e4 with e4 e7
        injection e6 with e6 e8
        injection e8 with e8 e9
        subst e4; subst e7; subst e6; subst e8; subst e9
        obtain ⟨q1, q2⟩ := hpl j i' x off' n' y e3 e5
        exact ⟨q2, hρ x y q1⟩) h
    exact ⟨out, o1, o3, out, rfl, o2⟩
  rcases hp with ⟨fs, hu, hall, hq⟩ | ⟨n, e, m, hu, hm, hq⟩
  · obtain ⟨hlen, hpt⟩ := parts_some hq
    obtain ⟨pl, hpl1, hpl2⟩ := places_some hall
    obtain ⟨out, o1, o2⟩ := fin (pl.toArray[·]?) hlen (fun j i x off n y e1 e2 => by
      obtain ⟨q1, f, q2, q3, q4⟩ := hpt j i x off n y e1 e2
      refine ⟨q1, ?_⟩
      have := hpl2 i f n (by simpa using q2) q4
      rw [q3] at this
      simpa using this)
    exact ⟨_, run_build w t _ out (by simp only [Program.built, h4, hu, h5, hpl1]; exact o1), o2⟩
  · obtain ⟨hlen, hpt⟩ := partsA_some hq
    obtain ⟨j, hj1, hj2⟩ := size_some hm
    obtain ⟨out, o1, o2⟩ := fin (fun i => some (i * m, m)) hlen (fun j i x off n y e1 e2 => by
      obtain ⟨q1, q2, q3⟩ := hpt j i x off n y e1 e2
      exact ⟨q1, by rw [q2, q3]⟩)
    refine ⟨_, run_build w t _ out ?_, o2⟩
    simp only [Program.built, h4, hu, h5, hj1, hj2]
    exact o1

/-- Zero elements, flat. -/
theorem zeros_list (zs : Array Value) (n : Nat) : ((Array.range (n * zs.size)).map (zs[· % zs.size]!)).toList = (List.replicate n zs.toList).flatten := by
  induction n with
  | zero => simp
  | succ n ih =>
    rw [List.replicate_succ', List.flatten_append, ← ih]
    simp only [Array.toList_map, Array.toList_range, List.flatten_cons, List.flatten_nil, List.append_nil]
    rw [Nat.add_mul, Nat.one_mul, List.range_add, List.map_append]
    congr 1
    apply List.ext_getElem?
    intro j
    simp only [List.map_map, List.getElem?_map]
    by_cases hj : j < zs.size
    · rw [List.getElem?_range hj]
      simp only [Option.map_some, Function.comp]
      rw [Nat.mul_add_mod_self_right, Nat.mod_eq_of_lt hj]
      simp [hj]
    · rw [List.getElem?_eq_none (by simpa using hj)]
      simp [Nat.le_of_not_lt hj]

theorem VL_replicate {z : List AV} {l : List Value} (h : VL κ w z l) (n : Nat) : VL κ w (List.replicate n z).flatten (List.replicate n l).flatten := by
  induction n with
  | zero => simp [VL]
  | succ n ih => rw [List.replicate_succ, List.replicate_succ, List.flatten_cons, List.flatten_cons]; exact h.append ih

end Go.AM
end
