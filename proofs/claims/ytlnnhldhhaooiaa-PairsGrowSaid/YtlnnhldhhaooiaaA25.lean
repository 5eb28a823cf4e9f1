import Derived.Test.YtlnnhldhhaooiaaA20
import Derived.Test.YtlnnhldhhaooiaaA24

set_option linter.unusedVariables false
set_option linter.unusedSimpArgs false
set_option linter.unusedSectionVars false
set_option linter.unnecessarySimpa false

section
/- How a function's result and boxes come out. -/
namespace Go.AM
open Go

variable {Γ : Env} {wp : Nat} {κ κ' κ'' : K} {H H1 Hf H' : Heap} {w w' : World}

mutual
theorem V_under {lb : Nat} (hb : ∀ i v x, i < lb → κ'.box i v = some x → κ''.box i v = some x) (hf : ∀ g o, κ'.frz g o → κ''.frz g o) : ∀ (a : AV) (v : Value), AV.under lb a = true → V κ' w a v → V κ'' w a v
  | .any, _, h, _ => by simp [AV.under] at h
  | .bool _, _, _, hv => hv
  | .int _ _, _, _, hv => hv
  | .str _, _, _, hv => hv
  | .nilp, _, _, hv => hv
  | .ref i ver e f, v, h, hv => by
    simp only [AV.under, decide_eq_true_eq] at h
    simp only [V] at hv ⊢
    obtain ⟨g, b, z, h1, h2⟩ := hv
    exact ⟨g, b, z, hb _ _ _ h h1, h2⟩
  | .fptr cs, v, h, hv => by
    simp only [AV.under] at h
    simp only [V] at hv ⊢
    obtain ⟨g, o, h1, h2⟩ := hv
    exact ⟨g, o, h1, VC_under hb hf g cs o h h2⟩
  | .nils, _, _, hv => hv
  | .fs es x, v, h, hv => by
    simp only [AV.under] at h
    simp only [V] at hv ⊢
    obtain ⟨a, z, cap, h1, h2, h3, h4, h5⟩ := hv
    exact ⟨a, z, cap, h1, h2, h3, h4, VR_under hb hf a.block z es a.off h h5⟩
  | .row i ver o n c z, v, h, hv => by
    simp only [AV.under, decide_eq_true_eq] at h
    simp only [V] at hv ⊢
    obtain ⟨g, b, cap, h1, h2⟩ := hv
    exact ⟨g, b, cap, hb _ _ _ h h1, h2⟩
  | .nilm, _, _, hv => hv
  | .map i, v, h, hv => by
    simp only [AV.under, decide_eq_true_eq] at h
    simp only [V] at hv ⊢
    obtain ⟨g, b, z, h1, h2⟩ := hv
    exact ⟨g, b, z, hb _ _ _ h h1, h2⟩
  | .fn f cap, v, h, hv => by
    simp only [AV.under] at h
    simp only [V] at hv ⊢
    obtain ⟨vs, h1, h2⟩ := hv
    exact ⟨vs, h1, VL_under hb hf cap _ h h2⟩
  | .yld i, v, h, hv => by
    simp only [AV.under, decide_eq_true_eq] at h
    simp only [V] at hv ⊢
    obtain ⟨g, b, z, h1, h2⟩ := hv
    exact ⟨g, b, z, hb _ _ _ h h1, h2⟩
  | .nilf, _, _, hv => hv
  | .nili, _, _, hv => hv
  | .iface t a, v, h, hv => by
    simp only [AV.under] at h
    simp only [V] at hv ⊢
    obtain ⟨u, h1, h2⟩ := hv
    exact ⟨u, h1, V_under hb hf a u h h2⟩
  | .agg cs, v, h, hv => by
    simp only [AV.under] at h
    simp only [V] at hv ⊢
    obtain ⟨h0, vs, h1, h2⟩ := hv
    exact ⟨h0, vs, h1, VL_under hb hf cs _ h h2⟩
  | .tup cs, v, h, hv => by
    simp only [AV.under] at h
    simp only [V] at hv ⊢
    obtain ⟨vs, h1, h2⟩ := hv
    exact ⟨vs, h1, VL_under hb hf cs _ h h2⟩
theorem VL_under {lb : Nat} (hb : ∀ i v x, i < lb → κ'.box i v = some x → κ''.box i v = some x) (hf : ∀ g o, κ'.frz g o → κ''.frz g o) : ∀ (as : List AV) (l : List Value), AV.unders lb as = true → VL κ' w as l → VL κ'' w as l
  | [], _, _, hv => hv
  | a :: as, l, h, hv => by
    simp only [AV.unders, Bool.and_eq_true] at h
    simp only [VL] at hv ⊢
    obtain ⟨v, vs, h1, h2, h3⟩ := hv
    exact ⟨v, vs, h1, V_under hb hf a v h.1 h2, VL_under hb hf as vs h.2 h3⟩
theorem VC_under {lb : Nat} (hb : ∀ i v x, i < lb → κ'.box i v = some x → κ''.box i v = some x) (hf : ∀ g o, κ'.frz g o → κ''.frz g o) (g : Nat) : ∀ (as : List AV) (o : Nat), AV.unders lb as = true → VC κ' w g as o → VC κ'' w g as o
  | [], _, _, _ => trivial
  | a :: as, o, h, hv => by
    simp only [AV.unders, Bool.and_eq_true] at h
    simp only [VC] at hv ⊢
    obtain ⟨h0, h1, ⟨v, h2, h3⟩, h4⟩ := hv
    exact ⟨h0, hf _ _ h1, ⟨v, h2, V_under hb hf a v h.1 h3⟩, VC_under hb hf g as (o + 1) h.2 h4⟩
theorem VR_under {lb : Nat} (hb : ∀ i v x, i < lb → κ'.box i v = some x → κ''.box i v = some x) (hf : ∀ g o, κ'.frz g o → κ''.frz g o) (g z : Nat) : ∀ (es : List (List AV)) (o : Nat), AV.underss lb es = true → VR κ' w g z es o → VR κ'' w g z es o
  | [], _, _, _ => trivial
  | e :: es, o, h, hv => by
    simp only [AV.underss, Bool.and_eq_true] at h
    simp only [VR] at hv ⊢
    obtain ⟨h1, h2, h3⟩ := hv
    exact ⟨h1, VC_under hb hf g e o h.1 h2, VR_under hb hf g z es (o + z) h.2 h3⟩
end

/-- Cells that are frozen anew: those of rows from 'lb' on. -/
def Frozen (κ' : K) (Hf : Heap) (lb : Nat) (w' : World) (g o : Nat) : Prop :=
  κ'.frz g o ∨ ∃ j ver es b z, lb ≤ j ∧ Hf[j]? = some (.cells ver es) ∧ κ'.box j ver = some (g, b, z) ∧ (w'.cell? ⟨g, o, none⟩).isSome = true

theorem freeze_snd (hi1 : HInv Γ κ' H1 w') (hHf : ∀ (j : Nat) (b : Box), Hf[j]? = some b → b.live = true → H1[j]? = some b) {lb : Nat} (hb : ∀ i v x, i < lb → κ'.box i v = some x → κ''.box i v = some x) (hf : ∀ g o, Frozen κ' Hf lb w' g o → κ''.frz g o) :
    ∀ (d : Nat) (a a' : AV) (u : Value), freeze lb Hf d a = some a' → V κ' w' a u → V κ'' w' a' u ∧ (a.one = true → a'.one = true)
  | 0, a, a', u, h, _ => by simp [freeze] at h
  | d + 1, a, a', u, h, hv => by
    have ih := freeze_snd hi1 hHf hb hf d
    unfold freeze at h
    split at h
    · rename_i hu
      injection h with h
      subst h
      exact ⟨V_under hb (fun g o h => hf g o (.inl h)) _ _ hu hv, id⟩
    · rename_i hu
      split at h
      · rename_i i ver o n c z
        obtain ⟨es, he, h⟩ := bind_some' h
        obtain ⟨es', he', h⟩ := bind_some' h
        injection h with h
        subst h
        simp only [AV.under, decide_eq_true_eq] at hu
        obtain ⟨g, b, cap, hk, rfl, hnc, hcc, _⟩ := hv
        obtain ⟨all, h1, h2⟩ := bind_some' he
        split at h2
        · rename_i hle
          injection h2 with h2
          have hHi := (rdRow_get h1).1
          have hH1 := hHf _ _ hHi rfl
          obtain ⟨⟨arr, T, hg, hva⟩, _⟩ := hi1.box _ _ hH1 _ _ _ hk
          obtain ⟨m1, m2⟩ := mapO_some he'
          have hn : es.length = n := by rw [← h2]; simp; omega
          refine ⟨⟨⟨g, b + o * z, none⟩, z, cap, by rw [← m1, hn], by rw [← m1, hn]; omega, fun h => (by cases h), fun _ => rfl, (VR_iff _ _).2 fun e el hel => ?_⟩, fun _ => rfl⟩
          obtain ⟨el0, q1, q2⟩ := m2 e el hel
          obtain ⟨n1, n2⟩ := mapO_some q2
          have q3 : all[o + e]? = some el0 := by
            rw [← h2, List.getElem?_take] at q1
            split at q1
            · rwa [List.getElem?_drop] at q1
            · cases q1
          obtain ⟨q4, q5⟩ := hva.2 _ _ q3
          refine ⟨by rw [← n1, q4], (VC_iff _ _).2 fun f af haf => ?_⟩
          obtain ⟨a0, r1, r2⟩ := n2 f af haf
          obtain ⟨o1, v, r3, r4⟩ := q5 f a0 r1
          obtain ⟨i1, i2⟩ := ih a0 af v r2 r4
          have hcell : w'.cell? ⟨g, b + o * z + e * z + f, none⟩ = some v := by
            rw [show b + o * z + e * z + f = b + (o + e) * z + f from by rw [Nat.add_mul]; omega]
            simp [World.cell?, hg, r3]
          exact ⟨i2 o1, hf _ _ (.inr ⟨i, ver, all, b, z, by omega, hHi, hk, by rw [hcell]; rfl⟩), v, hcell, i1⟩
        · cases h2
      · rename_i es x
        obtain ⟨es', he', h⟩ := bind_some' h
        injection h with h
        subst h
        obtain ⟨a, z, cap, rfl, h1, h2, h3, h4⟩ := hv
        obtain ⟨m1, m2⟩ := mapO_some he'
        refine ⟨⟨a, z, cap, by rw [m1], by omega, fun hx => by rw [h2 hx, m1], fun hne => h3 (fun e => hne (List.eq_nil_of_length_eq_zero (by rw [← m1, e]; rfl))), (VR_iff _ _).2 fun e el hel => ?_⟩, fun _ => rfl⟩
        obtain ⟨el0, q1, q2⟩ := m2 e el hel
        obtain ⟨n1, n2⟩ := mapO_some q2
        obtain ⟨q4, q5⟩ := (VR_iff _ _).1 h4 e el0 q1
        refine ⟨by rw [← n1, q4], (VC_iff _ _).2 fun f af haf => ?_⟩
        obtain ⟨a0, r1, r2⟩ := n2 f af haf
        obtain ⟨o1, r3, v, r4, r5⟩ := (VC_iff _ _).1 q5 f a0 r1
        obtain ⟨i1, i2⟩ := ih a0 af v r2 r5
        exact ⟨i2 o1, hf _ _ (.inl r3), v, r4, i1⟩
      · rename_i cs
        obtain ⟨cs', he', h⟩ := bind_some' h
        injection h with h
        subst h
        obtain ⟨o1, vs, rfl, h1⟩ := hv
        obtain ⟨m1, m2⟩ := mapO_some he'
        refine ⟨⟨?_, vs, rfl, (VL_iff _ _).2 ⟨by rw [← m1, h1.length], fun j x hj => ?_⟩⟩, fun h => by cases h⟩
        · rw [List.all_eq_true]
          intro x hx
          obtain ⟨j, hj⟩ := List.getElem?_of_mem hx
          obtain ⟨a0, r1, r2⟩ := m2 j x hj
          obtain ⟨v, _, r4⟩ := h1.get r1
          exact (ih a0 x v r2 r4).2 (List.all_eq_true.1 o1 a0 (List.mem_of_getElem? r1))
        · obtain ⟨a0, r1, r2⟩ := m2 j x hj
          obtain ⟨v, r3, r4⟩ := h1.get r1
          exact ⟨v, r3, (ih a0 x v r2 r4).1⟩
      · rename_i cs
        obtain ⟨cs', he', h⟩ := bind_some' h
        injection h with h
        subst h
        obtain ⟨vs, rfl, h1⟩ := hv
        obtain ⟨m1, m2⟩ := mapO_some he'
        refine ⟨⟨vs, rfl, (VL_iff _ _).2 ⟨by rw [← m1, h1.length], fun j x hj => ?_⟩⟩, fun h => by cases h⟩
        obtain ⟨a0, r1, r2⟩ := m2 j x hj
        obtain ⟨v, r3, r4⟩ := h1.get r1
        exact ⟨v, r3, (ih a0 x v r2 r4).1⟩
      · cases h

/-- Boxes below a line that nothing has turned. -/
theorem below_same (hF : Fr H.length κ H w κ' H1 w') {i : Nat} (hil : i < H.length) : (∀ v, κ'.box i v = κ.box i v) ∧ H1[i]? = H[i]? ∧ ∀ (bx : Box) (g b z : Nat), H[i]? = some bx → bx.live = true → κ.box i bx.ver = some (g, b, z) → w'.heap[g]? = w.heap[g]? := by
  rcases hF.at_ i hil with h | ⟨h, _⟩
  · exact h
  · omega

/-- A pure function's own boxes are dropped; some of its rows are frozen. -/
theorem leave_pure (hi : HInv Γ κ H w) (hle : Le κ w κ' w') (hF : Fr H.length κ H w κ' H1 w') (hi1 : HInv Γ κ' H1 w') (hHf : ∀ (j : Nat) (b : Box), Hf[j]? = some b → b.live = true → H1[j]? = some b) :
    let κ'' : K := ⟨Frozen κ' Hf H.length w', κ.box⟩
    Le κ w κ'' w' ∧ Fr wp κ H w κ'' H w' ∧ HInv Γ κ'' H w' := by
  intro κ''
  have hnf : ∀ (i : Nat) (b : Box), H[i]? = some b → b.live = true → ∀ g bb z, κ.box i b.ver = some (g, bb, z) → ∀ o, ¬ κ''.frz g o := by
    intro i b hb hl g bb z hk o ho
    have hil : i < H.length := (List.getElem?_eq_some_iff.1 hb).1
    obtain ⟨s1, s2, s3⟩ := below_same hF hil
    have hb1 : H1[i]? = some b := s2.trans hb
    have hk1 : κ'.box i b.ver = some (g, bb, z) := (s1 _).trans hk
    rcases ho with ho | ⟨j, ver, es, b', z', h1, h2, h3, _⟩
    · cases b with
      | cells ver es => exact (hi1.box i _ hb1 _ _ _ hk1).2 o ho
      | map ks es => exact (hi1.box i _ hb1 _ _ _ hk1).2 o ho
      | loop lid tmps st => exact (hi1.box i _ hb1 _ _ _ hk1).2 o ho
      | iter m since pos last => exact (hi1.box i _ hb1 _ _ _ hk1).2 o ho
      | defer => exact (hi1.box i _ hb1 _ _ _ hk1).2 o ho
      | dead => cases hl
    · exact hi1.disj i j b _ hb1 (hHf _ _ h2 rfl) (by omega) hl rfl _ _ _ _ _ _ hk1 h3 rfl
  have hle2 : Le κ w κ'' w' := ⟨fun g o h => .inl (hle.frz g o h), fun _ _ _ h => h, hle.keep, hle.shape, hle.size, hle.os, hle.tape, hle.output, hle.drawn, hle.blk, fun i v g b z h _ => ⟨i, v, b, z, h⟩⟩
  refine ⟨hle2, ⟨Nat.le_refl _, fun i hil => .inl ⟨fun _ => rfl, rfl, (below_same hF hil).2.2⟩⟩, hi.dom, fun i v g b z h => Nat.lt_of_lt_of_le (hi.lt _ _ _ _ _ h) hle.size, ?_, hi.disj, hi.vers, ?_⟩
  · intro i b hb
    cases hl : b.live with
    | false => cases b <;> first | (simp [Box.live] at hl; done) | trivial
    | true =>
      have hil : i < H.length := (List.getElem?_eq_some_iff.1 hb).1
      exact (hi.box i b hb).le hle2 fun g bb z hk => ⟨hk, (below_same hF hil).2.2 b g bb z hb hl hk, fun o ho => absurd ho (hnf i b hb hl g bb z hk o)⟩
  · intro g o h
    rcases h with h | ⟨_, _, _, _, _, _, _, _, h⟩
    · exact hi1.frz g o h
    · exact Option.isSome_iff_exists.1 h

end Go.AM
end
