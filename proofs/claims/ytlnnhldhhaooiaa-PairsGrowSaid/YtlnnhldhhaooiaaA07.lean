import Derived.Test.YtlnnhldhhaooiaaA06
import Derived.Deep.AppendSrc
import Derived.Lib.AppendZeros

set_option linter.unusedVariables false
set_option linter.unusedSimpArgs false
set_option linter.unusedSectionVars false
set_option linter.unnecessarySimpa false

section
/- Stores, new boxes, rows that grow. -/
namespace Go.AM
open Go

variable {Γ : Env} {wp : Nat} {κ κ' : K} {H : Heap} {w w' : World} {P : Program}

/-- A row's own cells are written, from place o on. -/
theorem HInv.rowSet (hi : HInv Γ κ H w) {i v : Nat} {es es' : List (List AV)} (hr : rdRow H i v = some es) {g b z : Nat} (hk : κ.box i v = some (g, b, z)) {arr : Array Value} {T : TypeId} (hg : w.heap[g]? = some (.cells arr T (0, 0)))
    (hva : VA κ w arr z b es) (hlen : es'.length = es.length) (hrows : Rows z es') {o : Nat} {vs : List Value} (hfit : o + vs.length ≤ es.length * z) (hvs : VL κ w ((es'.flatten.drop o).take vs.length) vs)
    (h1 : es'.flatten.take o = es.flatten.take o) (h2 : es'.flatten.drop (o + vs.length) = es.flatten.drop (o + vs.length)) (hwp : wp ≤ i) :
    let w' := w.setRow g (arr.toList.take (b + o) ++ vs ++ arr.toList.drop (b + o + vs.length)).toArray
    Le κ w κ w' ∧ Fr wp κ H w κ (H.set i (.cells v es')) w' ∧ HInv Γ κ (H.set i (.cells v es')) w' := by
  intro w'
  obtain ⟨_, hnf⟩ := hi.row hr hk
  have hs : (arr.toList.take (b + o) ++ vs ++ arr.toList.drop (b + o + vs.length)).toArray.size = arr.size := by
    have := hva.1
    simp
    omega
  refine hi.put (rdRow_some hr) rfl hk (Put.setRow hg _) (shape_put hg (setRow_heap w g arr _ T (0, 0) hg) hs) hnf (fun _ => rfl) hwp fun hle => ?_
  intro g' b' z' hk'
  rw [hk] at hk'
  injection hk' with hk'
  injection hk' with e1 e2
  injection e2 with e2 e3
  subst e1; subst e2; subst e3
  exact ⟨⟨_, T, setRow_heap w g arr _ T (0, 0) hg, VA_mid hva hle hlen hrows hfit (by
    rw [VL_iff] at hvs ⊢
    exact ⟨hvs.1, fun j a hj => by obtain ⟨u, h3, h4⟩ := hvs.2 j a hj; exact ⟨u, h3, V.le hle _ _ h4⟩⟩) h1 h2⟩, hnf⟩

theorem flat_split {es : List (List AV)} {z : Nat} (h : ∀ el ∈ es, el.length = z) {e : Nat} {old : List AV} (he : es[e]? = some old) :
    es.flatten = es.flatten.take (e * z) ++ old ++ es.flatten.drop ((e + 1) * z) ∧ (es.flatten.take (e * z)).length = e * z := by
  obtain ⟨h1, h2⟩ := List.getElem?_eq_some_iff.1 he
  constructor
  · rw [flat_take h, flat_drop h]
    conv => lhs; rw [← List.take_append_drop e es, List.drop_eq_getElem_cons h1, h2]
    simp
  · rw [List.length_take, flat_len h]
    have : e * z ≤ es.length * z := Nat.mul_le_mul_right z (by omega)
    omega

theorem flat_set {es : List (List AV)} {z : Nat} (h : ∀ el ∈ es, el.length = z) {e : Nat} {old : List AV} (he : es[e]? = some old) (x : List AV) :
    (es.set e x).flatten = es.flatten.take (e * z) ++ x ++ es.flatten.drop ((e + 1) * z) := by
  obtain ⟨h1, h2⟩ := List.getElem?_eq_some_iff.1 he
  rw [flat_take h, flat_drop h, List.set_eq_take_append_cons_drop, if_pos h1]
  simp

theorem splice_len {old cs : List AV} {f : Nat} (h : f + cs.length ≤ old.length) : (splice old f cs).length = old.length := by
  simp [splice]; omega

theorem mid3 (A old B cs : List AV) (f : Nat) (hf : f + cs.length ≤ old.length) :
    ((A ++ splice old f cs ++ B).drop (A.length + f)).take cs.length = cs ∧ (A ++ splice old f cs ++ B).take (A.length + f) = (A ++ old ++ B).take (A.length + f) ∧
    (A ++ splice old f cs ++ B).drop (A.length + f + cs.length) = (A ++ old ++ B).drop (A.length + f + cs.length) := by
  have e1 : A ++ splice old f cs ++ B = (A ++ old.take f) ++ (cs ++ (old.drop (f + cs.length) ++ B)) := by simp [splice]
  have e2 : A ++ old ++ B = (A ++ old.take f) ++ ((old.drop f).take cs.length ++ (old.drop (f + cs.length) ++ B)) := by
    conv => lhs; rw [← List.take_append_drop f old, ← List.take_append_drop cs.length (old.drop f), List.drop_drop]
    simp
  have l1 : (A ++ old.take f).length = A.length + f := by simp; omega
  have l2 : ((old.drop f).take cs.length).length = cs.length := by simp; omega
  refine ⟨?_, ?_, ?_⟩
  · rw [e1, ← l1, List.drop_left, List.take_left]
  · rw [e1, e2, ← l1, List.take_left, List.take_left]
  · rw [e1, e2, ← List.append_assoc, ← List.append_assoc (A ++ old.take f)]
    have l3 : (A ++ old.take f ++ cs).length = A.length + f + cs.length := by rw [List.length_append, l1]
    have l4 : (A ++ old.take f ++ (old.drop f).take cs.length).length = A.length + f + cs.length := by rw [List.length_append, l1, l2]
    rw [List.drop_left' l3, List.drop_left' l4]

theorem Rows.set {z : Nat} {es : List (List AV)} (h : Rows z es) {e : Nat} {x : List AV} (hx : x.length = z) (h1 : x.all AV.one = true) : Rows z (es.set e x) := by
  rw [List.set_eq_take_append_cons_drop]
  split
  · exact (h.take e).append ((Rows.one h1 hx).append (h.drop (e + 1)))
  · exact h

/-- Cells are stored into a box. -/
theorem store_sound (hi : HInv Γ κ H w) {t : TypeId} {n : Nat} (hn : size P t = some n) {i v e f : Nat} {a x : Value} (ha : V κ w (.ref i v e f) a) {xv : AV} (hx : V κ w xv x) {cs : List AV} (hc : xv.cells = some cs) (hl : cs.length = n)
    {es : List (List AV)} (hr : rdRow H i v = some es) {old : List AV} (he : es[e]? = some old) (hf : f + cs.length ≤ old.length) (hwp : wp ≤ i) :
    ∃ w', (Instr.storeAt t a x).run P w = .ok () w' ∧ Le κ w κ w' ∧ Fr wp κ H w κ (H.set i (.cells v (es.set e (splice old f cs)))) w' ∧ HInv Γ κ (H.set i (.cells v (es.set e (splice old f cs)))) w' := by
  obtain ⟨g, b, z, hk, rfl⟩ := ha
  obtain ⟨⟨arr, T, hg, hva⟩, hnf⟩ := hi.row hr hk
  obtain ⟨r1, r2, r3⟩ := VA_flat.1 hva
  obtain ⟨o1, hvl⟩ := cells_sound hx hc
  have hlv : x.cells.toList.length = cs.length := hvl.length.symm
  have hoz : old.length = z := r1.1 old (List.mem_of_getElem? he)
  obtain ⟨s1, s2⟩ := flat_split r1.1 he
  have hset := flat_set r1.1 he (splice old f cs)
  have hel : e < es.length := (List.getElem?_eq_some_iff.1 he).1
  have hez : (e + 1) * z ≤ es.length * z := Nat.mul_le_mul_right z hel
  rw [Nat.add_mul, Nat.one_mul] at hez
  have hrows : Rows z (es.set e (splice old f cs)) := r1.set (by rw [splice_len hf, hoz]) (by
    have ho : old.all AV.one = true := (VA_elem hg hva he).2.1
    rw [List.all_eq_true] at ho o1 ⊢
    intro y hy
    simp only [splice, List.mem_append] at hy
    rcases hy with (hy | hy) | hy
    · exact ho y (List.mem_of_mem_take hy)
    · exact o1 y hy
    · exact ho y (List.mem_of_mem_drop hy))
  obtain ⟨m1, m2, m3⟩ := mid3 (es.flatten.take (e * z)) old (es.flatten.drop ((e + 1) * z)) cs f hf
  rw [← hset, s2] at m1 m2 m3
  rw [← s1] at m2 m3
  have key := hi.rowSet hr hk hg hva (es' := es.set e (splice old f cs)) (by simp) hrows (o := e * z + f) (vs := x.cells.toList) (by omega) (by rw [hlv, m1]; exact hvl) m2 (by rw [hlv]; exact m3) hwp
  refine ⟨_, ?_, key⟩
  have hones := hvl.ones o1
  have hst := run_storeCells_at P g (b + e * z + f) T x.cells.toList 0 arr w hg (by rw [hlv]; omega) hones
  have hsz : x.cells.size = n := by rw [← hl, ← hlv]; simp
  simp only [Instr.storeAt, Instr.sureAddr, storeVar, Sem.run_bind, Sem.run_pure, Result.andThen_ok, run_sizeOf hn, hsz, ne_eq, not_true_eq_false, if_false]
  rw [hst]
  simp only [Nat.add_zero, Nat.add_assoc]

end Go.AM
end
