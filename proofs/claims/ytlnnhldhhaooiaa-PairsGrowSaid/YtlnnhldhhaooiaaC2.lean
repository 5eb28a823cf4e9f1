import Derived.Test.YtlnnhldhhaooiaaC1
import Derived.Sort.Row
import Derived.Sort.Grow
import Derived.Sort.Statements
import Derived.Shelf.GgSortFunc.RowK

set_option linter.unusedVariables false
set_option linter.unusedSimpArgs false
set_option linter.unusedSectionVars false
set_option linter.unnecessarySimpa false

section
namespace Go.Proofs.Tryt17A
open Go Go.AM Go.Proofs Go.Sort
set_option linter.unusedVariables false
variable {Γ : Env} {κ : K} {H : Heap} {w w' : World} {wp : Nat}

/-- The world grew: what was there is as it was. -/
structure Grown (w w' : World) : Prop where
  old : ∀ k, k < w.heap.size → w'.heap[k]? = w.heap[k]?
  size : w.heap.size ≤ w'.heap.size
  os : w'.os = w.os
  tape : w'.tape = w.tape
  output : w'.output = w.output
  drawn : w.drawn ≤ w'.drawn
theorem HInv.grown (hi : HInv Γ κ H w) (hg : Grown w w') : Le κ w κ w' ∧ Fr wp κ H w κ H w' ∧ HInv Γ κ H w' := by
  have hle : Le κ w κ w' := {
    frz := fun _ _ h => h
    box := fun _ _ _ h => h
    keep := fun g o h => by
      obtain ⟨v, hv⟩ := hi.frz g o h
      exact cell_of_heap (hg.old g (lt_of_cell hv))
    shape := fun g s h => (shape_of_heap (hg.old g (lt_of_shape h))).trans h
    size := hg.size
    os := hg.os
    tape := hg.tape
    output := hg.output
    drawn := hg.drawn
    blk := fun g h _ => hg.old g h
    own := fun i v g b z h _ => ⟨i, v, b, z, h⟩ }
  refine ⟨hle, ⟨Nat.le_refl _, fun i _ => .inl ⟨fun _ => rfl, rfl, fun bx g b z _ _ hk => hg.old g (hi.lt _ _ _ _ _ hk)⟩⟩, hi.dom, fun i v g b z h => Nat.lt_of_lt_of_le (hi.lt _ _ _ _ _ h) hg.size, fun i b hb => ?_, hi.disj, hi.vers, fun g o h => ?_⟩
  · exact (hi.box i b hb).le hle fun g b' z h => ⟨h, hg.old g (hi.lt _ _ _ _ _ h), fun _ h => h⟩
  · obtain ⟨v, hv⟩ := hi.frz g o h
    exact ⟨v, (hle.keep g o h).trans hv⟩

theorem Grown.grow (w : World) (os : Array Obj) : Grown w (grow w os) where
  old k h := by simp [Go.Sort.grow, Array.getElem?_append_left h]
  size := by simp [Go.Sort.grow]
  os := rfl
  tape := rfl
  output := rfl
  drawn := Nat.le_refl _

/-- A row is laid anew with scalars, draws are made, blocks come behind. -/
theorem HInv.row {β : Type} [Inhabited β] (encV : β → Value) (hi : HInv Γ κ H w) {i v g b z : Nat} {all es : List (List AV)} (hbx : H[i]? = some (.cells v all)) (hκ : κ.box i v = some (g, b, z)) (hwp : wp ≤ i)
    (F : Array β) (hF : F.size = es.length * z) (hn : es.length ≤ all.length)
    (hes : ∀ (e : Nat) (el : List AV), es[e]? = some el → el.length = z ∧ ∀ (f : Nat) (a : AV), el[f]? = some a → a.one = true ∧ ∀ κ' w', V κ' w' a (encV F[e * z + f]!))
    (q : Nat) (os : Array Obj) :
    let W := grow (putRow encV (Sort.ahead w q) g b F) os
    ∃ κ', Le κ w κ' W ∧ Fr wp κ H w κ' (H.set i (.cells v (es ++ all.drop es.length))) W ∧ HInv Γ κ' (H.set i (.cells v (es ++ all.drop es.length))) W := by
  obtain ⟨⟨arr, T, hg, hva⟩, hnf⟩ := hi.box i _ hbx g b z hκ
  obtain ⟨hsz, hel⟩ := hva
  have hlt : g < w.heap.size := (Array.getElem?_eq_some_iff.1 hg).1
  have hmul : es.length * z ≤ all.length * z := Nat.mul_le_mul_right z hn
  have hp : Put w (putRow encV (Sort.ahead w q) g b F) g (.cells (putCells encV b F arr) T (0, 0)) := {
    lt := hlt
    here := by
      show (w.heap.modify g (onCells (putCells encV b F)))[g]? = _
      rw [Array.getElem?_modify, if_pos rfl, hg]; rfl
    other := fun k hk => by
      show (w.heap.modify g (onCells (putCells encV b F)))[k]? = _
      rw [Array.getElem?_modify, if_neg (Ne.symm hk)]
    size := by
      show (w.heap.modify g (onCells (putCells encV b F))).size = _
      simp
    os := rfl
    tape := rfl
    output := rfl
    drawn := Nat.le_add_right _ _ }
  have hpc : (putCells encV b F arr).size = arr.size := by simp [putCells]
  have hat : ∀ k, (putCells encV b F arr)[k]? = (arr[k]?).map fun x => if b ≤ k ∧ k < b + F.size then encV F[k - b]! else x := fun k => by
    simp [putCells, Array.getElem?_mapIdx]
  have hput := HInv.put (wp := wp) hi (bx' := .cells v (es ++ all.drop es.length)) hbx rfl hκ hp (fun s hs => by
    have h1 : w.shape? g = some (T, arr.size) := by simp [World.shape?, hg]
    have h2 : (putRow encV (Sort.ahead w q) g b F).shape? g = some (T, (putCells encV b F arr).size) := by simp [World.shape?, hp.here]
    rw [h1] at hs
    rw [h2, hpc]; exact hs) hnf (fun _ => rfl) hwp (fun hle => by
    intro g' b' z' hk
    have : (g, b, z) = (g', b', z') := Option.some.inj (hκ.symm.trans hk)
    obtain ⟨rfl, rfl, rfl⟩ : g = g' ∧ b = b' ∧ z = z' := by simpa using this
    refine ⟨⟨_, T, hp.here, ?_, fun e el he => ?_⟩, hnf⟩
    · rw [hpc]
      have : (es ++ all.drop es.length).length = all.length := by simp; omega
      rw [this]; exact hsz
    · by_cases hlt : e < es.length
      · rw [List.getElem?_append_left hlt] at he
        obtain ⟨h1, h2⟩ := hes e el he
        refine ⟨h1, fun f a hf => ?_⟩
        obtain ⟨h3, h4⟩ := h2 f a hf
        have hfz : f < z := by rw [← h1]; exact (List.getElem?_eq_some_iff.1 hf).1
        have hez : e * z + z ≤ es.length * z := by
          have := Nat.mul_le_mul_right z (show e + 1 ≤ es.length from hlt); rwa [Nat.add_mul, Nat.one_mul] at this
        refine ⟨h3, _, ?_, h4 κ _⟩
        rw [hat]
        have hk : b + e * z + f < arr.size := by omega
        rw [Array.getElem?_eq_getElem hk, Option.map_some, if_pos ⟨by omega, by omega⟩, show b + e * z + f - b = e * z + f by omega]
      · have hge : es.length ≤ e := by omega
        rw [List.getElem?_append_right hge, List.getElem?_drop, show es.length + (e - es.length) = e by omega] at he
        obtain ⟨h1, h2⟩ := hel e el he
        refine ⟨h1, fun f a hf => ?_⟩
        obtain ⟨h3, u, h4, h5⟩ := h2 f a hf
        refine ⟨h3, u, ?_, V.le hle _ _ h5⟩
        have hez : es.length * z ≤ e * z := Nat.mul_le_mul_right z hge
        rw [hat, h4, Option.map_some, if_neg (by omega)])
  obtain ⟨l1, f1, i1⟩ := hput
  obtain ⟨l2, f2, i2⟩ := HInv.grown (wp := wp) i1 (Grown.grow _ os)
  exact ⟨κ, l1.trans l2, f1.trans f2, i2⟩
end Go.Proofs.Tryt17A
end
