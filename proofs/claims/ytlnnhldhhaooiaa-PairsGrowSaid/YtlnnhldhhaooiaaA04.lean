import Derived.Test.YtlnnhldhhaooiaaA03
import Derived.Laws.Build
import Derived.Laws.Tables
import Derived.Laws.Bits
import Derived.WalkKit

set_option linter.unusedVariables false
set_option linter.unusedSimpArgs false
set_option linter.unusedSectionVars false
set_option linter.unnecessarySimpa false

section
/- Operations that touch no box. -/
namespace Go.AM
open Go

variable {Γ : Env} {wp : Nat} {κ κ' : K} {H : Heap} {w w' : World}

theorem cv1_sound {v : Value} {a : AV} (h : cv1 v = some a) : V κ w a v ∧ a.one = true := by
  unfold cv1 at h
  split at h <;> first | (cases h; done) | skip
  all_goals (injection h with h; subst h)
  all_goals first
    | exact ⟨rfl, rfl⟩
    | exact ⟨⟨_, rfl, rfl⟩, rfl⟩
    | exact ⟨⟨_, rfl, by simp [VL]⟩, rfl⟩

theorem mapO_some {α β : Type} {f : α → Option β} : ∀ {l : List α} {r : List β}, mapO f l = some r → l.length = r.length ∧ ∀ (j : Nat) (b : β), r[j]? = some b → ∃ a : α, l[j]? = some a ∧ f a = some b
  | [], r, h => by simp [mapO] at h; subst h; simp
  | a :: as, r, h => by
    simp only [mapO, Option.bind_eq_bind] at h
    cases hf : f a with
    | none => rw [hf] at h; cases h
    | some b =>
      cases hr : mapO f as with
      | none => rw [hf, hr] at h; cases h
      | some bs =>
        rw [hf, hr] at h
        simp at h
        subst h
        obtain ⟨h1, h2⟩ := mapO_some hr
        refine ⟨by simp [h1], fun j x hj => ?_⟩
        cases j with
        | zero => simp at hj; subst hj; exact ⟨a, by simp, hf⟩
        | succ j => simp at hj; obtain ⟨y, h3, h4⟩ := h2 j x hj; exact ⟨y, by simpa using h3, h4⟩

theorem cv_sound {v : Value} {a : AV} (h : cv v = some a) : V κ w a v := by
  unfold cv at h
  split at h
  · rename_i cs
    cases hm : mapO cv1 cs.toList with
    | none => rw [hm] at h; cases h
    | some r =>
      rw [hm] at h
      simp at h
      subst h
      obtain ⟨h1, h2⟩ := mapO_some hm
      refine ⟨?_, cs, rfl, (VL_iff _ _).2 ⟨h1.symm, fun j b hj => ?_⟩⟩
      · rw [List.all_eq_true]
        intro b hb
        obtain ⟨j, hj⟩ := List.getElem?_of_mem hb
        obtain ⟨x, _, hx⟩ := h2 j b hj
        exact (cv1_sound (κ := κ) (w := w) hx).2
      · obtain ⟨x, hx1, hx⟩ := h2 j b hj
        exact ⟨x, hx1, (cv1_sound hx).1⟩
  · exact (cv1_sound h).1

/-- Operands. -/
theorem opd_sound {fr : List AV} {a : Go.Act} (hf : FR κ w fr a.tmps) {x : Operand} {y : Opd} (h : trO x = some y) : V κ w (opd fr y) (a.eval x) := by
  cases x with
  | tmp t =>
    simp [trO] at h
    subst h
    simp only [opd, Go.Act.eval]
    by_cases ht : t < fr.length
    · obtain ⟨v, h1, h2⟩ := hf.2 t fr[t] (by simp [ht])
      simpa [List.getD_eq_getElem?_getD, ht, Array.getD_eq_getD_getElem?, h1] using h2
    · have hle : fr.length ≤ t := Nat.le_of_not_lt ht
      rw [List.getD_eq_getElem?_getD, List.getElem?_eq_none hle]
      trivial
  | const v =>
    simp [trO] at h
    obtain ⟨b, hb, rfl⟩ := h
    exact cv_sound hb
  | global g => simp [trO] at h
  | func f =>
    simp [trO] at h
    subst h
    exact ⟨#[], rfl, by simp [VL]⟩

/-- The outcome of an operation: a value that stands for v, a heap that stands for H'. -/
def Out (Γ : Env) (wp : Nat) (κ : K) (H : Heap) (w : World) (H' : Heap) (v : AV) (r : Result Next) : Prop :=
  ∃ u κ' w', (r = .ok (.value u) w' ∨ r = .ok .skip w' ∧ u = undef) ∧ Le κ w κ' w' ∧ (Fr wp κ H w κ' H' w' ∧ HInv Γ κ' H' w') ∧ V κ' w' v u

theorem Out.val (hi : HInv Γ κ H w) {v : AV} {u : Value} {r : Result Next} (hr : r = .ok (.value u) w) (hv : V κ w v u) : Out Γ wp κ H w H v r :=
  ⟨u, κ, w, .inl hr, Le.refl κ w, ⟨Fr.refl _ _ _ _, hi⟩, hv⟩

theorem cells_sound {a : AV} {v : Value} {cs : List AV} (h : V κ w a v) (hc : a.cells = some cs) : cs.all AV.one = true ∧ VL κ w cs v.cells.toList := by
  cases a <;> simp only [AV.cells, Option.some.injEq] at hc <;> try (cases hc; done)
  case agg as =>
    subst hc
    obtain ⟨h0, vs, rfl, h1⟩ := h
    exact ⟨h0, h1⟩
  all_goals
    subst hc
    have hv : v.cells = #[v] := by
      have := V.one h rfl
      cases v <;> first | rfl | (simp [Value.oneCell'] at this; done)
    rw [hv]
    exact ⟨rfl, v, [], rfl, h, rfl⟩

theorem size_some {P : Program} {t n : Nat} (h : size P t = some n) : ∃ i, P.info? t = some i ∧ i.size = n := by
  unfold size at h
  cases hi : P.info? t with
  | none => rw [hi] at h; cases h
  | some i => rw [hi] at h; exact ⟨i, rfl, by simpa using h⟩
theorem bytes_some {P : Program} {t n : Nat} (h : bytes P t = some n) : ∃ i, P.info? t = some i ∧ i.bytes = n := by
  unfold bytes at h
  cases hi : P.info? t with
  | none => rw [hi] at h; cases h
  | some i => rw [hi] at h; exact ⟨i, rfl, by simpa using h⟩
theorem run_sizeOf {P : Program} {t n : Nat} (h : size P t = some n) (w : World) : (sizeOf t).run P w = .ok n w := by
  obtain ⟨i, h1, h2⟩ := size_some h
  simp [sizeOf, typeInfo, h1, h2]
theorem run_isAg {P : Program} {t : Nat} {b : Bool} (h : isAg P t = some b) (w : World) : (isAgg t).run P w = .ok b w := by
  unfold isAg at h
  cases hu : P.underlying t with
  | none => rw [hu] at h; cases h
  | some d =>
    rw [hu] at h
    cases d <;> simp at h <;> subst h <;> simp [isAgg, run_underlying hu]
theorem zero_some {P : Program} {t : Nat} {z : List AV} (h : zero P t = some z) : ∃ i zv av, P.info? t = some i ∧ i.zero = some zv ∧ cv zv = some av ∧ av.cells = some z ∧ i.size = z.length := by
  unfold zero zeroAV size at h
  cases hi : P.info? t with
  | none => simp [hi] at h
  | some i =>
    cases hz : i.zero with
    | none => simp [hi, hz] at h
    | some zv =>
      cases ha : cv zv with
      | none => simp [hi, hz, ha] at h
      | some av =>
        cases hc : av.cells with
        | none => simp [hi, hz, ha, hc] at h
        | some cs =>
          simp [hi, hz, ha, hc] at h
          obtain ⟨h1, h2⟩ := h
          exact ⟨i, zv, av, rfl, hz, ha, by rw [hc, h2], by rw [← h1, h2]⟩
theorem run_zero {P : Program} {t : Nat} {z : List AV} (h : zero P t = some z) : ∃ zv, (∀ w : World, (zeroValue t).run P w = .ok zv w) ∧ (∀ (κ : K) (w : World), VL κ w z zv.cells.toList) ∧ z.all AV.one = true ∧ (∃ i, P.info? t = some i ∧ i.zero = some zv ∧ i.size = z.length) := by
  obtain ⟨i, zv, av, h1, h2, h3, h4, h5⟩ := zero_some h
  refine ⟨zv, fun w => by simp [zeroValue, typeInfo, h1, h2], fun κ w => (cells_sound (cv_sound h3) h4).2, (cells_sound (κ := ⟨fun _ _ => False, fun _ _ => none⟩) (w := default) (cv_sound h3) h4).1, i, h1, h2, h5⟩

theorem VL.length {as : List AV} {l : List Value} (h : VL κ w as l) : as.length = l.length := ((VL_iff as l).1 h).1
theorem VL.get {as : List AV} {l : List Value} (h : VL κ w as l) {j : Nat} {a : AV} (ha : as[j]? = some a) : ∃ v : Value, l[j]? = some v ∧ V κ w a v := ((VL_iff as l).1 h).2 j a ha
theorem VL.drop {as : List AV} {l : List Value} (h : VL κ w as l) (n : Nat) : VL κ w (as.drop n) (l.drop n) := by
  rw [VL_iff] at h ⊢
  refine ⟨by simp [h.1], fun j a ha => ?_⟩
  rw [List.getElem?_drop] at ha ⊢
  exact h.2 _ a ha
theorem VL.take {as : List AV} {l : List Value} (h : VL κ w as l) (n : Nat) : VL κ w (as.take n) (l.take n) := by
  rw [VL_iff] at h ⊢
  refine ⟨by simp [h.1], fun j a ha => ?_⟩
  rw [List.getElem?_take] at ha ⊢
  split at ha
  · rename_i hj; obtain ⟨v, h1, h2⟩ := h.2 _ a ha; exact ⟨v, by simp [hj, h1], h2⟩
  · cases ha
theorem VL.append {as bs : List AV} {l m : List Value} (h : VL κ w as l) (k : VL κ w bs m) : VL κ w (as ++ bs) (l ++ m) := by
  rw [VL_iff] at h k ⊢
  refine ⟨by simp [h.1, k.1], fun j a ha => ?_⟩
  rw [List.getElem?_append] at ha ⊢
  split at ha
  · rename_i hj; rw [if_pos (by omega)]; exact h.2 _ a ha
  · rename_i hj; rw [if_neg (by omega), ← h.1]; exact k.2 _ a ha
theorem VL.map {f : Opd → AV} {g : Operand → Value} : ∀ {xs : List Operand} {ys : List Opd}, mapO trO xs = some ys → (∀ x y, trO x = some y → V κ w (f y) (g x)) → VL κ w (ys.map f) (xs.map g)
  | xs, ys, hm, h => by
    obtain ⟨h1, h2⟩ := mapO_some hm
    rw [VL_iff]
    refine ⟨by simp [h1], fun j a ha => ?_⟩
    simp at ha
    obtain ⟨y, hy, rfl⟩ := ha
    obtain ⟨x, hx, hxy⟩ := h2 j y hy
    exact ⟨g x, by simp [hx], h x y hxy⟩

end Go.AM
end
