import Derived.Test.YtlnnhldhhaooiaaC3
import Derived.Shelf.GgSortFunc.InsertionK

set_option linter.unusedVariables false
set_option linter.unusedSimpArgs false
set_option linter.unusedSectionVars false
set_option linter.unnecessarySimpa false

section
namespace Go.Proofs.Tryt17A
open Go Go.AM Go.Proofs Go.Sort
set_option linter.unusedVariables false

theorem world_grown {w w' : World} (h1 : ∀ g, g < w.heap.size → w'.heap[g]? = w.heap[g]?) (h2 : w.heap.size ≤ w'.heap.size) (h3 : w'.os = w.os) (h4 : w'.tape = w.tape) (h5 : w'.output = w.output) (h6 : w.drawn ≤ w'.drawn) :
    ∃ q os, w' = grow (w.drewN q) os := by
  refine ⟨w'.drawn - w.drawn, w'.heap.extract w.heap.size w'.heap.size, ?_⟩
  have hh : w'.heap = w.heap ++ w'.heap.extract w.heap.size w'.heap.size := by
    apply Array.ext_getElem?
    intro i
    by_cases hi : i < w.heap.size
    · rw [Array.getElem?_append_left hi, h1 i hi]
    · rw [Array.getElem?_append_right (by omega), Array.getElem?_extract]
      by_cases hj : i < w'.heap.size
      · rw [if_pos (by omega), show w.heap.size + (i - w.heap.size) = i by omega]
      · rw [if_neg (by omega), Array.getElem?_eq_none (by omega)]
  obtain ⟨heap, tape, drawn, os, output⟩ := w'
  simp only at hh h3 h4 h5 h6
  subst h3 h4 h5
  simp only [grow, World.drewN, World.mk.injEq]
  exact ⟨hh, trivial, by omega, trivial, trivial⟩

def no : PF := fun _ _ _ => none
theorem tabOk0 : TabOk (Γ no no) := tabOk fun f pr hf args H v H' κ w vs wp n hp => by
  have : pr = no := by
    have hf' : ((fns no no)[f]?).join = some (.prim pr) := hf
    by_cases h23 : f = 23
    · subst h23; injection hf' with h; injection h with h; exact h.symm
    · by_cases h36 : f = 36
      · subst h36; injection hf' with h; injection h with h; exact h.symm
      · exfalso; exact prim_only f pr h23 h36 hf'
  subst this
  cases hp

def encV (x : Int × Int) : List Value := [.int .i64 x.1, .int .i64 x.2]

theorem call24 (x y : Int × Int) (W : World) : Calls Try.prog 24 #[.agg (encV x).toArray, .agg (encV y).toArray] W fun e w' => e = .returned (.int .i64 (cmpP x y)) ∧ ∃ q os, w' = grow (W.drewN q) os := by
  have h := f24_spec (p23 := no) (p36 := no) (cx := ⟨0, none⟩) (H := []) x y (Nat.zero_le _)
  obtain ⟨k, hk⟩ := callF_cont h
  have va : ∀ (z : Int × Int), V (K.start fun _ _ => False) W (valP z) (.agg (encV z).toArray) := fun z => by
    simp only [valP, V, encP]
    exact ⟨rfl, (encV z).toArray, rfl, by simp [encV, VL, V]⟩
  have := call_E (w := W) tabOk0 hk (F0 := fun _ _ => False) (fun _ _ h => h.elim) (vs := [.agg (encV x).toArray, .agg (encV y).toArray]) (by
    simp only [VL]
    exact ⟨_, _, rfl, va x, _, _, rfl, va y, rfl⟩)
  refine this.mono fun e w' he => ?_
  cases e with
  | returned u =>
    obtain ⟨⟨κ', v1, _⟩, h1, h2, h3, h4, h5, h6⟩ := he
    simp only [V] at v1
    subst v1
    exact ⟨rfl, world_grown h1 h2 h3 h4 h5 h6⟩
  | panicked _ => exact he.elim
  | outgrown => exact he.elim
end Go.Proofs.Tryt17A
end
