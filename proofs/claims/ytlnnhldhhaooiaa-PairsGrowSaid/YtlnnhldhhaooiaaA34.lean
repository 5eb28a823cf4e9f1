import Derived.Test.YtlnnhldhhaooiaaA33

set_option linter.unusedVariables false
set_option linter.unusedSimpArgs false
set_option linter.unusedSectionVars false
set_option linter.unnecessarySimpa false

section
/- Calls, from outside. -/
namespace Go.AM
open Go

variable {Γ : Env} {w w' : World}

/-- At the start: no box; some cells that nobody writes. -/
def K.start (F0 : Nat → Nat → Prop) : K := ⟨F0, fun _ _ => none⟩

theorem HInv.start {F0 : Nat → Nat → Prop} (h : ∀ g o, F0 g o → ∃ v : Value, w.cell? ⟨g, o, none⟩ = some v) : HInv Γ (K.start F0) [] w where
  dom i v x h := by cases h
  lt i v g b z h := by cases h
  box i b h := by simp at h
  disj i j bi bj h := by simp at h
  vers i v x b h := by cases h
  frz := h

/-- A call that the evaluator answers, from a world without boxes: it returns; what was there is as it was. -/
theorem call_E (hT : TabOk Γ) {k : Nat} {f : Nat} {args : List AV} {v : AV} {H' : Heap} (h : callF Γ.T (E Γ.T k) ⟨0, none⟩ f args [] = some (v, H')) {F0 : Nat → Nat → Prop} (hF : ∀ g o, F0 g o → ∃ v : Value, w.cell? ⟨g, o, none⟩ = some v) {vs : List Value} (hv : VL (K.start F0) w args vs) :
    Calls Γ.P f vs.toArray w fun
      | .returned u, w' => (∃ κ', V κ' w' v u ∧ HInv Γ κ' H' w') ∧ (∀ g, g < w.heap.size → w'.heap[g]? = w.heap[g]?) ∧ w.heap.size ≤ w'.heap.size ∧ w'.os = w.os ∧ w'.tape = w.tape ∧ w'.output = w.output ∧ w.drawn ≤ w'.drawn
      | _, _ => False := by
  have := callF_snd hT (E_snd hT k) h (HInv.start hF) hv 0
  refine callsIn_wide.1 (this.mono fun e w' he => ?_)
  cases e with
  | returned u =>
    obtain ⟨κ', l1, _, i1, v1⟩ := he
    exact ⟨⟨κ', v1, i1⟩, fun g hg => l1.blk g hg (fun _ _ _ _ hb => by cases hb), l1.size, l1.os, l1.tape, l1.output, l1.drawn⟩
  | panicked _ => exact he.elim
  | outgrown => exact he.elim

end Go.AM
end
