import Derived.Test.YtlnnhldhhaooiaaC6
import Derived.Test.YtlnnhldhhaooiaaBk

set_option linter.unusedVariables false
set_option linter.unusedSimpArgs false
set_option linter.unusedSectionVars false
set_option linter.unnecessarySimpa false

section
namespace Go.Proofs.Tryt17A
open Go Go.AM Go.Proofs
set_option linter.unusedVariables false
variable {W : World}

/-- All that is there. -/
def F0 (W : World) (g o : Nat) : Prop := ∃ v : Value, W.cell? ⟨g, o, none⟩ = some v
abbrev K0 (W : World) : K := K.start (F0 W)

theorem no_spot {a : Addr} {v : Value} (h : W.cell? a = some v) : a.spot = none := by
  unfold World.cell? at h
  split at h
  · cases hs : a.spot with
    | none => rfl
    | some s => simp [hs] at h
  · cases h

theorem add_eq {a : Addr} (hs : a.spot = none) (i : Nat) : a.add i = ⟨a.block, a.off + i, none⟩ := by
  obtain ⟨b, o, sp⟩ := a
  simp only at hs
  subst hs
  unfold Addr.add
  split
  · rename_i h; subst h; rfl
  · rfl
theorem vrI : ∀ (l : List Int) (g o : Nat), (∀ (i : Nat) (hi : i < l.length), W.cell? ⟨g, o + i, none⟩ = some (.int .i64 l[i])) → VR (K0 W) W g 1 (l.map encI) o
  | [], _, _, _ => by simp [VR]
  | x :: l, g, o, h => by
    have h0 := h 0 (by simp)
    simp only [List.map_cons, VR]
    refine ⟨rfl, ?_, vrI l g (o + 1) fun i hi => ?_⟩
    · simp only [encI, VC]
      exact ⟨rfl, ⟨_, h0⟩, ⟨_, h0, by simp [V]⟩, trivial⟩
    · have := h (i + 1) (by simp; omega)
      rw [show o + 1 + i = o + (i + 1) by omega]
      simpa using this
theorem vrP : ∀ (l : List (Int × Int)) (g o : Nat), (∀ (i : Nat) (hi : i < l.length), W.cell? ⟨g, o + i * 2, none⟩ = some (.int .i64 l[i].1) ∧ W.cell? ⟨g, o + i * 2 + 1, none⟩ = some (.int .i64 l[i].2)) → VR (K0 W) W g 2 (l.map encP) o
  | [], _, _, _ => by simp [VR]
  | x :: l, g, o, h => by
    obtain ⟨h0, h1⟩ := h 0 (by simp)
    simp only [List.map_cons, VR]
    refine ⟨rfl, ?_, vrP l g (o + 2) fun i hi => ?_⟩
    · simp only [encP, VC]
      have h1' : W.cell? ⟨g, o + 1, none⟩ = some (.int .i64 x.2) := by simpa using h1
      exact ⟨rfl, ⟨_, h0⟩, ⟨_, h0, by simp [V]⟩, rfl, ⟨_, h1'⟩, ⟨_, h1', by simp [V]⟩, trivial⟩
    · have := h (i + 1) (by simp; omega)
      rw [show o + 2 + i * 2 = o + (i + 1) * 2 by omega]
      simpa using this

/-- A slice of numbers that came in. -/
def InI (W : World) (v : Value) : Prop := v = .slice none 0 0 ∨ ∃ (a : Addr) (l : List Int) (cap : Nat), v = .slice (some a) l.length cap ∧ l.length ≤ cap ∧ ∀ (i : Nat) (hi : i < l.length), W.cell? (a.add i) = some (.int .i64 l[i])
def InP (W : World) (v : Value) : Prop := v = .slice none 0 0 ∨ ∃ (a : Addr) (l : List (Int × Int)) (cap : Nat), v = .slice (some a) l.length cap ∧ l.length ≤ cap ∧ ∀ (i : Nat) (hi : i < l.length), W.cell? (a.add (i * 2)) = some (.int .i64 l[i].1) ∧ W.cell? (a.add (i * 2 + 1)) = some (.int .i64 l[i].2)

theorem argI {v : Value} (h : InI W v) : ∃ (u : AV) (l : List Int), V (K0 W) W u v ∧ Fz u (l.map encI) := by
  rcases h with rfl | ⟨a, l, cap, rfl, h1, h2⟩
  · exact ⟨.nils, [], by simp [V], .inl ⟨rfl, rfl⟩⟩
  · refine ⟨.fs (l.map encI) false, l, ?_, .inr ⟨_, rfl⟩⟩
    have hs : l.length ≠ 0 → a.spot = none := fun hn => no_spot (h2 0 (by omega))
    simp only [V]
    refine ⟨a, 1, cap, by simp, by simpa using h1, by simp, fun hn => hs (by simpa using hn), ?_⟩
    by_cases h0 : l.length = 0
    · have : l = [] := List.length_eq_zero_iff.1 h0
      subst this; simp [VR]
    · refine vrI l a.block a.off fun i hi => ?_
      have := h2 i hi
      have hsp := hs h0
      simp only [add_eq hsp] at this
      exact this
theorem argP {v : Value} (h : InP W v) : ∃ (u : AV) (l : List (Int × Int)), V (K0 W) W u v ∧ Fz u (l.map encP) := by
  rcases h with rfl | ⟨a, l, cap, rfl, h1, h2⟩
  · exact ⟨.nils, [], by simp [V], .inl ⟨rfl, rfl⟩⟩
  · refine ⟨.fs (l.map encP) false, l, ?_, .inr ⟨_, rfl⟩⟩
    have hs : l.length ≠ 0 → a.spot = none := fun hn => no_spot (h2 0 (by omega)).1
    simp only [V]
    refine ⟨a, 2, cap, by simp, by simpa using h1, by simp, fun hn => hs (by simpa using hn), ?_⟩
    by_cases h0 : l.length = 0
    · have : l = [] := List.length_eq_zero_iff.1 h0
      subst this; simp [VR]
    · refine vrP l a.block a.off fun i hi => ?_
      have := h2 i hi
      have hsp := hs h0
      simp only [add_eq hsp] at this
      exact this

/-- slices.SortFunc of no element. -/
def NoneP : Prop := ∀ (p : Option Addr) (cap : Nat) (fv : Value) (w : World), Calls Try.prog 23 #[.slice p 0 cap, fv] w fun e w' => e = .returned (.tuple #[]) ∧ w' = w

theorem tabOk1 (hn : NoneP) : TabOk (Γ prim23 prim36) := tabOk fun f pr hf args H v H' κ w vs wp n hp hi hv => by
  have hf' : ((fns prim23 prim36)[f]?).join = some (.prim pr) := hf
  by_cases h23 : f = 23
  · subst h23
    injection hf' with h; injection h with h; subst h
    exact prim23_snd hn rfl args H v H' κ w vs wp n hp hi hv
  · by_cases h36 : f = 36
    · subst h36
      injection hf' with h; injection h with h; subst h
      exact prim36_snd (Δ := Γ prim23 prim36) sortI_try args H v H' κ w vs wp n hp hi hv
    · exact (prim_only f pr h23 h36 hf').elim

/-- What the laws answer. -/
def Said (W : World) : Ending → World → Prop := fun e W' => e = .returned (.bool true) ∧ (∀ g, g < W.heap.size → W'.heap[g]? = W.heap[g]?) ∧ W.heap.size ≤ W'.heap.size ∧ W'.os = W.os ∧ W'.tape = W.tape ∧ W'.output = W.output

theorem said_of {f : Nat} {args : List AV} {vs : List Value} (hn : NoneP) (h : callF (T prim23 prim36) (ev (T prim23 prim36)) ⟨0, none⟩ f args [] = some (.bool true, [])) (hv : VL (K0 W) W args vs) :
    Calls Try.prog f vs.toArray W (Said W) := by
  obtain ⟨k, hk⟩ := callF_cont h
  refine (call_E (Γ := Γ prim23 prim36) (w := W) (tabOk1 hn) hk (F0 := F0 W) (fun _ _ h => h) hv).mono fun e w' he => ?_
  cases e with
  | returned u =>
    obtain ⟨⟨κ', v1, _⟩, h1, h2, h3, h4, h5, _⟩ := he
    simp only [V] at v1
    subst v1
    exact ⟨rfl, h1, h2, h3, h4, h5⟩
  | panicked _ => exact he.elim
  | outgrown => exact he.elim

theorem f3_any (hn : NoneP) (v0 v1 v2 : Value) (h0 : InP W v0) (h1 : InP W v1) (h2 : InI W v2) : Calls Try.prog 3 #[v0, v1, v2] W (Said W) := by
  obtain ⟨u0, l0, a0, z0⟩ := argP h0
  obtain ⟨u1, l1, a1, z1⟩ := argP h1
  obtain ⟨u2, l2, a2, z2⟩ := argI h2
  exact said_of hn (f3_spec z0 z1 z2 (Nat.zero_le _)) (vs := [v0, v1, v2]) (by
    simp only [VL]; exact ⟨_, _, rfl, a0, _, _, rfl, a1, _, _, rfl, a2, rfl⟩)
theorem f4_any (hn : NoneP) (v0 v1 v2 v3 : Value) (h0 : InP W v0) (h1 : InP W v1) (h2 : InI W v2) (h3 : InI W v3) : Calls Try.prog 4 #[v0, v1, v2, v3] W (Said W) := by
  obtain ⟨u0, l0, a0, z0⟩ := argP h0
  obtain ⟨u1, l1, a1, z1⟩ := argP h1
  obtain ⟨u2, l2, a2, z2⟩ := argI h2
  obtain ⟨u3, l3, a3, z3⟩ := argI h3
  exact said_of hn (f4_spec z0 z1 z2 z3 (Nat.zero_le _)) (vs := [v0, v1, v2, v3]) (by
    simp only [VL]; exact ⟨_, _, rfl, a0, _, _, rfl, a1, _, _, rfl, a2, _, _, rfl, a3, rfl⟩)
end Go.Proofs.Tryt17A
end
