import Derived.Test.YtlnnhldhhaooiaaA09

set_option linter.unusedVariables false
set_option linter.unusedSimpArgs false
set_option linter.unusedSectionVars false
set_option linter.unnecessarySimpa false

section
/- Literals, makes, appends, copies. -/
namespace Go.AM
open Go

variable {Γ : Env} {wp : Nat} {κ κ' : K} {H : Heap} {w w' : World} {P : Program}

theorem fillRow_flat {z : Nat} : ∀ (qs : List (Nat × AV)) (es r : List (List AV)), Rows z es → (∀ q ∈ qs, ∀ vs, q.2.cells = some vs → vs.all AV.one = true) → fillRow z es qs = some r →
    fill es.flatten (qs.map fun q => (q.1 * z, z, q.2)) = some r.flatten ∧ Rows z r ∧ r.length = es.length
  | [], es, r, h1, _, h => by simp [fillRow] at h; subst h; exact ⟨rfl, h1, rfl⟩
  | (i, v) :: qs, es, r, h1, h2, h => by
    simp only [fillRow] at h
    cases hc : v.cells with
    | none => rw [hc] at h; cases h
    | some vs =>
      rw [hc] at h
      simp only [] at h
      split at h
      · rename_i hfit
        obtain ⟨f1, f2⟩ := hfit
        have ho := h2 (i, v) (by simp) vs hc
        obtain ⟨g1, g2, g3⟩ := fillRow_flat qs (es.set i vs) r (h1.set f1 ho) (fun q hq => h2 q (by simp [hq])) h
        refine ⟨?_, g2, by simpa using g3⟩
        have hle : i * z + z ≤ es.length * z := by
          have := Nat.mul_le_mul_right z (Nat.succ_le_of_lt f2)
          rwa [Nat.succ_mul] at this
        have he : es[i]? = some es[i] := List.getElem?_eq_getElem f2
        have e1 : (es.set i vs).flatten = splice es.flatten (i * z) vs := by
          rw [flat_set h1.1 he, splice, f1, Nat.add_mul, Nat.one_mul]
        simp only [List.map_cons, fill, hc]
        rw [if_pos ⟨f1, by rw [flat_len h1.1]; exact hle⟩, ← e1, g1]
      · cases h

/-- The cells of a new block, frozen. -/
theorem VR_new {hle : Le κ w κ' w'} {g : Nat} {vs : Array Value} {T : TypeId} {fz : Nat × Nat} (hn : w'.heap[g]? = some (.cells vs T fz)) {z : Nat} {es : List (List AV)} (hr : Rows z es) (hl : es.length * z ≤ vs.size) (hv : VL κ w es.flatten (vs.toList.take (es.length * z)))
    (hf : ∀ o, o < vs.size → κ'.frz g o) : VR κ' w' g z es 0 := by
  rw [VR_iff]
  intro e el he
  have hel := hr.1 el (List.mem_of_getElem? he)
  refine ⟨hel, (VC_iff _ _).2 fun j a hj => ?_⟩
  have hjz : j < z := by rw [← hel]; exact (List.getElem?_eq_some_iff.1 hj).1
  have he2 : e < es.length := (List.getElem?_eq_some_iff.1 he).1
  have hez : (e + 1) * z ≤ es.length * z := Nat.mul_le_mul_right z he2
  rw [Nat.add_mul, Nat.one_mul] at hez
  have hg := flat_get hr.1 he hjz
  rw [hj] at hg
  obtain ⟨v, h1, h2⟩ := hv.get hg
  rw [List.getElem?_take, if_pos (by omega), Array.getElem?_toList] at h1
  refine ⟨List.all_eq_true.1 hr.2 a (List.mem_of_getElem? hg), hf _ (by omega), v, ?_, V.le hle _ _ h2⟩
  simp only [World.cell?, hn, Nat.zero_add]
  simpa using h1

theorem lit_sound (hi : HInv Γ κ H w) {t e : TypeId} {n : Nat} {ps : Array (Nat × Operand)} {z : List AV} {qs : List (Nat × Opd)} {fr : List AV} {ρ : Operand → Value} (ht : P.underlying t = some (.slice e)) (hz : zero P e = some z)
    (hlim : n * z.length ≤ 16777216) (hz0 : z.length ≠ 0) (hq : partsS ps.toList = some qs) (hρ : ∀ (x : Operand) (y : Opd), trO x = some y → V κ w (opd fr y) (ρ x)) {es : List (List AV)}
    (h : fillRow z.length (List.replicate n z) (mkParts' fr qs) = some es) :
    Out Γ wp κ H w H (.fs es true) ((do pure (.value (← Instr.buildSlice t n (ps.map fun (i, x) => (i, ρ x)))) : Sem Next).run P w) := by
  obtain ⟨zv, h1, h2, h3, i, h4, h5, h6⟩ := run_zero hz
  have hzl : zv.cells.size = z.length := by have := (h2 κ w).length; simp at this; exact this.symm
  have hsz : size P e = some z.length := by rw [size_of_info h4, h6]
  obtain ⟨hlen, hpt⟩ := partsS_some hq
  have hin : ∀ q ∈ mkParts' fr qs, ∃ v, V κ w q.2 v := by
    intro q hq'
    simp only [mkParts', List.mem_map] at hq'
    obtain ⟨⟨i', y⟩, hy, rfl⟩ := hq'
    obtain ⟨j, hj⟩ := List.getElem?_of_mem hy
    have hjl : j < ps.toList.length := by rw [hlen]; exact (List.getElem?_eq_some_iff.1 hj).1
    obtain ⟨q1, _⟩ := hpt j _ _ i' y (List.getElem?_eq_getElem hjl) hj
    exact ⟨_, hρ _ _ q1⟩
  obtain ⟨f1, f2, f3⟩ := fillRow_flat (mkParts' fr qs) (List.replicate n z) es (Rows.replicate h3 rfl n) (fun q hq' vs hc => by obtain ⟨v, hv⟩ := hin q hq'; exact (cells_sound hv hc).1) h
  let zs : Array Value := (Array.range (n * z.length)).map (zv.cells[· % zv.cells.size]!)
  have hzs : zs.toList = (List.replicate n zv.cells.toList).flatten := by
    have := zeros_list zv.cells n
    rw [hzl] at this
    simpa only [zs, hzl] using this
  obtain ⟨out, o1, o2, o3⟩ := fill_sound (κ := κ) (w := w) (place := fun i => some (i * z.length, z.length)) (ps.map fun (i, x) => (i, ρ x)).toList ((mkParts' fr qs).map fun q => (q.1 * z.length, z.length, q.2)) (List.replicate n z).flatten zs es.flatten
    (Rows.replicate h3 rfl n).2 (by rw [hzs]; exact VL_replicate (h2 κ w) n) (by simpa [mkParts'] using hlen)
    (fun j i v off m a e1 e2 => by
      simp only [Array.toList_map, List.getElem?_map, Option.map_eq_some_iff, mkParts'] at e1 e2
      obtain ⟨⟨i', x⟩, e3, e4⟩ := e1
      obtain ⟨⟨i'', a'⟩, ⟨⟨i3, y⟩, e5, e6⟩, e7⟩ := e2
      injection e4 with e4 e8
      injection e6 with e6 e9
      injection e7 with e7 e10
      injection e10 with e10 e11
      subst e4; subst e8; subst e6; subst e9; subst e7; subst e10; subst e11
      obtain ⟨q1, q2⟩ := hpt j i' x i3 y e3 e5
      subst q2
      exact ⟨rfl, hρ x y q1⟩) f1
  have hfl : es.flatten.length = n * z.length := by rw [flat_len f2.1, f3]; simp
  have hos : out.size = n * z.length := by have := o2.length; rw [hfl] at this; simpa using this.symm
  obtain ⟨hle, hh⟩ := hi.freezeNew (wp := wp) (New.alloc w (.cells out e))
  refine ⟨.slice (some ⟨w.heap.size, 0, none⟩) n n, _, w.alloc (.cells out e), .inl ?_, hle, hh, ?_⟩
  · have hlim' : ¬ (n * z.length > 2 ^ 24) := by omega
    have o1' : Instr.fill (fun i => some (i * z.length, z.length)) zs (Array.map (fun x => (x.fst, ρ x.snd)) ps).toList = some out := o1
    by_cases h0 : n * z.length = 0
    · have hzs' : ∀ f : Nat → Value, (Array.range (n * z.length)).map f = zs := by intro f; simp [zs, h0]
      simp only [Instr.buildSlice, Sem.run_bind, run_underlying ht, Result.andThen_ok, run_sizeOf hsz, hlim', if_false, Sem.run_pure]
      rw [if_pos h0]
      simp only [Sem.run_bind, Sem.run_pure, Result.andThen_ok, hzs', o1']
      simp [newRow]
    · simp only [Instr.buildSlice, Sem.run_bind, run_underlying ht, Result.andThen_ok, run_sizeOf hsz, hlim', if_false, Sem.run_pure]
      rw [if_neg h0]
      simp only [Sem.run_bind, Sem.run_pure, Result.andThen_ok, h1]
      rw [show (Array.range (n * z.length)).map (fun x => zv.cells[x % zv.cells.size]!) = zs from rfl, o1']
      simp [newRow]
  · have hvr : VR { κ with frz := fun g o => κ.frz g o ∨ g = w.heap.size ∧ o < out.size } (w.alloc (.cells out e)) w.heap.size z.length es 0 :=
      VR_new (hle := hle) (heap_alloc_new w (.cells out e)) f2 (by rw [f3, List.length_replicate, hos]; exact Nat.le_refl _) (by
        rw [f3, List.length_replicate, List.take_of_length_le (by rw [Array.length_toList, hos]; exact Nat.le_refl _)]; exact o2) (fun o ho => .inr ⟨rfl, ho⟩)
    exact ⟨⟨w.heap.size, 0, none⟩, z.length, n, by rw [f3]; simp, by rw [f3]; simp, fun _ => by rw [f3]; simp, fun _ => rfl, hvr⟩

end Go.AM
end
