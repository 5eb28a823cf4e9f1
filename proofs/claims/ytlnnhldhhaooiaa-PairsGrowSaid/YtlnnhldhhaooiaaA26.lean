import Derived.Test.YtlnnhldhhaooiaaA25

set_option linter.unusedVariables false
set_option linter.unusedSimpArgs false
set_option linter.unusedSectionVars false
set_option linter.unnecessarySimpa false

section
/- Leaving a function. -/
namespace Go.AM
open Go

variable {Γ : Env} {wp : Nat} {κ κ' κ'' : K} {H H1 Hf H' : Heap} {w w' : World}

theorem mapO_freeze_rows (hi1 : HInv Γ κ' H1 w') (hHf : ∀ (j : Nat) (b : Box), Hf[j]? = some b → b.live = true → H1[j]? = some b) {lb : Nat} (hb : ∀ i v x, i < lb → κ'.box i v = some x → κ''.box i v = some x) (hf : ∀ g o, Frozen κ' Hf lb w' g o → κ''.frz g o)
    {d : Nat} {es es' : List (List AV)} (h : mapO (mapO (freeze lb Hf d)) es = some es') {arr : Array Value} {z b : Nat} (hva : VA κ' w' arr z b es) : VA κ'' w' arr z b es' := by
  obtain ⟨m1, m2⟩ := mapO_some h
  refine ⟨by rw [← m1]; exact hva.1, fun e el hel => ?_⟩
  obtain ⟨el0, q1, q2⟩ := m2 e el hel
  obtain ⟨n1, n2⟩ := mapO_some q2
  obtain ⟨q4, q5⟩ := hva.2 e el0 q1
  refine ⟨by rw [← n1, q4], fun f af haf => ?_⟩
  obtain ⟨a0, r1, r2⟩ := n2 f af haf
  obtain ⟨o1, v, r3, r4⟩ := q5 f a0 r1
  obtain ⟨i1, i2⟩ := freeze_snd hi1 hHf hb hf d a0 af v r2 r4
  exact ⟨i2 o1, v, r3, i1⟩

theorem VA_seg {arr : Array Value} {z b : Nat} {es : List (List AV)} (h : VA κ w arr z b es) {o n : Nat} (ho : o + n ≤ es.length) : VA κ w arr z (b + o * z) ((es.drop o).take n) := by
  have hl : ((es.drop o).take n).length = n := by simp; omega
  refine ⟨?_, fun e el he => ?_⟩
  · rw [hl]
    have := h.1
    have h2 : (o + n) * z ≤ es.length * z := Nat.mul_le_mul_right z ho
    rw [Nat.add_mul] at h2
    omega
  · rw [List.getElem?_take] at he
    split at he
    · rw [List.getElem?_drop] at he
      have := h.2 _ _ he
      refine ⟨this.1, fun f a hf => ?_⟩
      have h3 := this.2 f a hf
      rwa [show b + o * z + e * z + f = b + (o + e) * z + f from by rw [Nat.add_mul]; omega]
    · cases he

/-- A row is handed over. -/
theorem leave_row (hi : HInv Γ κ H w) (hle : Le κ w κ' w') (hF : Fr H.length κ H w κ' H1 w') (hi1 : HInv Γ κ' H1 w') {i ver o n c z : Nat} {u : Value} (hv : V κ' w' (.row i ver o n c z) u) (hil : H.length ≤ i) {es es' : List (List AV)} (hr : rdEls H1 i ver o n = some es)
    {d : Nat} (hz : mapO (mapO (freeze H.length (H1.set i .dead) d)) es = some es') :
    ∃ κ'', Le κ w κ'' w' ∧ Fr wp κ H w κ'' (H ++ [.cells 0 es']) w' ∧ HInv Γ κ'' (H ++ [.cells 0 es']) w' ∧ V κ'' w' (.row H.length 0 0 n n z) u := by
  obtain ⟨g, b, cap, hk, rfl, hnc, hcc, T, m, hsh, hm⟩ := hv
  have hHf : ∀ (j : Nat) (b : Box), (H1.set i .dead)[j]? = some b → b.live = true → H1[j]? = some b := by
    intro j b hj hl
    rcases set_get hj with ⟨rfl, rfl⟩ | ⟨_, hj⟩
    · cases hl
    · exact hj
  obtain ⟨all, h1, h2⟩ := bind_some' hr
  split at h2
  case isFalse => cases h2
  case isTrue hon =>
  injection h2 with h2
  have hH1 := (rdRow_get h1).1
  obtain ⟨⟨arr, TT, hg, hva⟩, hnfi⟩ := hi1.box _ _ hH1 _ _ _ hk
  have hlen : es'.length = n := by
    rw [← (mapO_some hz).1, ← h2]
    simp
    omega
  let κ'' : K := ⟨Frozen κ' (H1.set i .dead) H.length w', fun j v => if j = H.length ∧ v = 0 then some (g, b + o * z, z) else κ.box j v⟩
  have hno : ∀ v, κ.box H.length v = none := by
    intro v
    cases h : κ.box H.length v with
    | none => rfl
    | some x => exact absurd (hi.dom _ _ _ h) (Nat.lt_irrefl _)
  have hself : κ''.box H.length 0 = some (g, b + o * z, z) := by simp [κ'']
  have hoth : ∀ j v, j ≠ H.length → κ''.box j v = κ.box j v := fun j v h => by simp [κ'', h]
  have hcase : ∀ j v x, κ''.box j v = some x → (j = H.length ∧ v = 0 ∧ x = (g, b + o * z, z)) ∨ (j ≠ H.length ∧ κ.box j v = some x) := by
    intro j v x h
    by_cases e : j = H.length ∧ v = 0
    · obtain ⟨rfl, rfl⟩ := e
      rw [hself] at h
      injection h with h
      exact .inl ⟨rfl, rfl, h.symm⟩
    · have h' : κ.box j v = some x := by simpa [κ'', e] using h
      refine .inr ⟨fun ej => ?_, h'⟩
      subst ej
      rw [hno] at h'
      cases h'
  have hbelow : ∀ j v x, j < H.length → κ'.box j v = some x → κ''.box j v = some x := by
    intro j v x hj h
    rw [hoth j v (by omega), ← (below_same hF hj).1 v]
    exact h
  have hnf : ∀ (j : Nat) (bx : Box), H[j]? = some bx → bx.live = true → ∀ g bb z, κ.box j bx.ver = some (g, bb, z) → ∀ o, ¬ κ''.frz g o := by
    intro j bx hb hl g bb z hk o ho
    have hjl : j < H.length := (List.getElem?_eq_some_iff.1 hb).1
    obtain ⟨s1, s2, s3⟩ := below_same hF hjl
    have hb1 : H1[j]? = some bx := s2.trans hb
    have hk1 : κ'.box j bx.ver = some (g, bb, z) := (s1 _).trans hk
    rcases ho with ho | ⟨j', ver, es, b', z', h1, h2, h3, _⟩
    · cases bx with
      | cells ver es => exact (hi1.box j _ hb1 _ _ _ hk1).2 o ho
      | map ks es => exact (hi1.box j _ hb1 _ _ _ hk1).2 o ho
      | loop lid tmps st => exact (hi1.box j _ hb1 _ _ _ hk1).2 o ho
      | iter m since pos last => exact (hi1.box j _ hb1 _ _ _ hk1).2 o ho
      | defer => exact (hi1.box j _ hb1 _ _ _ hk1).2 o ho
      | dead => cases hl
    · exact hi1.disj j j' bx _ hb1 (hHf _ _ h2 rfl) (by omega) hl rfl _ _ _ _ _ _ hk1 h3 rfl
  have hnfi' : ∀ o, ¬ κ''.frz g o := by
    intro o ho
    rcases ho with ho | ⟨j', ver', es2, b', z', h1', h2', h3', _⟩
    · exact hnfi o ho
    · rcases set_get h2' with ⟨_, e⟩ | ⟨hne, h2'⟩
      · cases e
      · exact hi1.disj i j' _ _ hH1 h2' hne rfl rfl _ _ _ _ _ _ hk h3' rfl
  have hle2 : Le κ w κ'' w' := by
    refine ⟨fun g o h => .inl (hle.frz g o h), fun j v x h => ?_, hle.keep, hle.shape, hle.size, hle.os, hle.tape, hle.output, hle.drawn, hle.blk, fun j v g' b' z' h hlt => ?_⟩
    · rw [hoth j v (by have := hi.dom _ _ _ h; omega)]; exact h
    · rcases hcase j v _ h with ⟨_, _, e⟩ | ⟨_, h⟩
      · injection e with e1 e2
        subst e1
        exact hle.own i ver _ b z hk hlt
      · exact ⟨_, _, _, _, h⟩
  refine ⟨κ'', hle2, ⟨by simp, fun j hj => .inl ⟨fun v => hoth j v (by omega), List.getElem?_append_left hj, (below_same hF hj).2.2⟩⟩, ⟨?_, ?_, ?_, ?_, ?_, ?_⟩, ?_⟩
  · intro j v x h
    rcases hcase j v x h with ⟨rfl, _, _⟩ | ⟨_, h⟩
    · simp
    · have := hi.dom _ _ _ h; simp; omega
  · intro j v g' b' z' h
    rcases hcase j v _ h with ⟨_, _, e⟩ | ⟨_, h⟩
    · injection e with e1 e2
      subst e1
      exact hi1.lt _ _ _ _ _ hk
    · exact Nat.lt_of_lt_of_le (hi.lt _ _ _ _ _ h) hle.size
  · intro j bx hb
    by_cases hj : j < H.length
    · rw [List.getElem?_append_left hj] at hb
      cases hl : bx.live with
      | false => cases bx <;> first | (simp [Box.live] at hl; done) | trivial
      | true =>
        refine (hi.box j bx hb).le hle2 fun g' bb z' hk' => ?_
        rw [hoth j _ (by omega)] at hk'
        exact ⟨hk', (below_same hF hj).2.2 bx g' bb z' hb hl hk', fun o ho => absurd ho (hnf j bx hb hl g' bb z' hk' o)⟩
    · have hjl := (List.getElem?_eq_some_iff.1 hb).1
      simp at hjl
      have : j = H.length := by omega
      subst this
      rw [List.getElem?_append_right (Nat.le_refl _)] at hb
      simp at hb
      subst hb
      intro g' b' z' hk'
      rw [hself] at hk'
      injection hk' with hk'
      injection hk' with e1 e2
      injection e2 with e2 e3
      subst e1; subst e2; subst e3
      refine ⟨⟨arr, TT, hg, ?_⟩, hnfi'⟩
      refine mapO_freeze_rows hi1 hHf hbelow (fun _ _ h => h) hz ?_
      rw [← h2]
      exact VA_seg hva hon
  · have key : ∀ (j : Nat) (bj : Box), H[j]? = some bj → bj.live = true → ∀ g' b' z', κ.box j bj.ver = some (g', b', z') → g' ≠ g := by
      intro j bj hbj lj g' b' z' h
      have hjl : j < H.length := (List.getElem?_eq_some_iff.1 hbj).1
      obtain ⟨s1, s2, _⟩ := below_same hF hjl
      exact hi1.disj j i bj _ (s2.trans hbj) hH1 (by omega) lj rfl _ _ _ _ _ _ ((s1 _).trans h) hk
    intro j k bj bk hbj hbk hjk lj lk g1 b1 z1 g2 b2 z2 e1 e2
    rcases hcase j _ _ e1 with ⟨hj, _, x1⟩ | ⟨hj, d1⟩
    · rcases hcase k _ _ e2 with ⟨hk', _, x2⟩ | ⟨hk', d2⟩
      · exact absurd (hj.trans hk'.symm) hjk
      · have hkl := hi.dom _ _ _ d2
        rw [List.getElem?_append_left hkl] at hbk
        have x1' : g1 = g := congrArg Prod.fst x1
        rw [x1']
        exact (key k bk hbk lk _ _ _ d2).symm
    · have hjl := hi.dom _ _ _ d1
      rw [List.getElem?_append_left hjl] at hbj
      rcases hcase k _ _ e2 with ⟨hk', _, x2⟩ | ⟨hk', d2⟩
      · have x2' : g2 = g := congrArg Prod.fst x2
        rw [x2']
        exact key j bj hbj lj _ _ _ d1
      · have hkl := hi.dom _ _ _ d2
        rw [List.getElem?_append_left hkl] at hbk
        exact hi.disj j k bj bk hbj hbk hjk lj lk _ _ _ _ _ _ d1 d2
  · intro j v x bj h hbj hlj
    rcases hcase j v x h with ⟨_, rfl, _⟩ | ⟨_, h⟩
    · exact Nat.zero_le _
    · rw [List.getElem?_append_left (hi.dom _ _ _ h)] at hbj
      exact hi.vers j v x bj h hbj hlj
  · intro g' o' h
    rcases h with h | ⟨_, _, _, _, _, _, _, _, h⟩
    · exact hi1.frz g' o' h
    · exact Option.isSome_iff_exists.1 h
  · exact ⟨g, b + o * z, cap, hself, by simp, Nat.le_refl _, by omega, T, m, hsh, by
      have := hm
      simp only [Nat.add_mul, Nat.zero_add] at this ⊢
      omega⟩

theorem leave_snd (hi : HInv Γ κ H w) (hle : Le κ w κ' w') {cx : Ctx} {mode : Nat} (hF : Fr (cx.enter mode H.length).wp κ H w κ' H1 w') (hi1 : HInv Γ κ' H1 w') {v v' : AV} {u : Value} (hv : V κ' w' v u) (hl : leave mode H.length H H1 v = some (v', H')) :
    ∃ κ'', Le κ w κ'' w' ∧ Fr cx.wp κ H w κ'' H' w' ∧ HInv Γ κ'' H' w' ∧ V κ'' w' v' u := by
  have pure : ∀ d, freeze H.length H1 d v = some v' → Fr H.length κ H w κ' H1 w' → ∃ κ'', Le κ w κ'' w' ∧ Fr cx.wp κ H w κ'' H w' ∧ HInv Γ κ'' H w' ∧ V κ'' w' v' u := by
    intro d hd hF
    obtain ⟨a1, a2, a3⟩ := leave_pure (wp := cx.wp) hi hle hF hi1 (Hf := H1) (fun _ _ h _ => h)
    refine ⟨_, a1, a2, a3, (freeze_snd hi1 (fun _ _ h _ => h) (fun i ver x hil h => ?_) (fun _ _ h => h) d v v' u hd hv).1⟩
    rw [← (below_same hF hil).1 ver]
    exact h
  unfold leave at hl
  split at hl
  · injection hl with hl
    injection hl with h1 h2
    subst h1; subst h2
    exact ⟨κ', hle, hF, hi1, hv⟩
  · obtain ⟨x, hx, hl⟩ := Option.map_eq_some_iff.1 hl
    injection hl with h1 h2
    subst h1; subst h2
    exact pure _ hx hF
  · rename_i hm0 hm2
    have hF' : Fr H.length κ H w κ' H1 w' := by
      have : (cx.enter mode H.length).wp = H.length := by
        unfold Ctx.enter
        split
        · exact absurd rfl hm0
        · rfl
      rwa [this] at hF
    split at hl
    · rename_i i ver o n c z
      split at hl
      · rename_i hil
        obtain ⟨es, he, hl⟩ := bind_some' hl
        obtain ⟨es', he', hl⟩ := bind_some' hl
        injection hl with hl
        injection hl with h1 h2
        subst h1; subst h2
        exact leave_row hi hle hF' hi1 hv hil he he'
      · cases hl
    · obtain ⟨x, hx, hl⟩ := Option.map_eq_some_iff.1 hl
      injection hl with h1 h2
      subst h1; subst h2
      exact pure _ hx hF'

end Go.AM
end
