import Derived.Test.YtlnnhldhhaooiaaA30

set_option linter.unusedVariables false
set_option linter.unusedSimpArgs false
set_option linter.unusedSectionVars false
set_option linter.unnecessarySimpa false

section
/- Regions, whole. -/
namespace Go.AM
open Go

variable {Γ : Env} {wp : Nat} {κ κ' κ'' : K} {H H1 Hf H' : Heap} {w w' : World} {rec : Ctx → AC → St → Option (Ex × St)}

section
variable {T : Tab} {cx : Ctx} {b0 : Nat}

theorem runOps_ds {aos : List AO} : ∀ {l : List Nat} {st st' : St} {f : Nat → Fp}, Runs T rec cx b0 aos l st f st' → st'.ds = st.ds
  | [], st, st', f, h => by simp only [Runs] at h; rw [h]
  | i :: l, st, st', f, h => by
    obtain ⟨o, st1, h1, h2, h3⟩ := h
    rw [runOps_ds h3]
    unfold stepO at h2
    split at h2
    · obtain ⟨_, _, h2⟩ := bind_some' h2
      obtain ⟨_, _, h2⟩ := bind_some' h2
      injection h2 with h2
      injection h2 with h2 _
      rw [← h2]
    · injection h2 with h2
      injection h2 with h2 _
      rw [← h2]
    · cases h2

/-- In the text's order. -/
theorem runOpsF_runs {aos : List AO} : ∀ (l : List AO) (k : Nat) (st st' : St) (fps : List Fp), (∀ j, l[j]? = aos[k + j]?) → runOpsF T rec cx b0 l st = some (st', fps) →
    ∀ f : Nat → Fp, (∀ j, j < l.length → f (k + j) = fps.getD j (.eff [] [])) → Runs T rec cx b0 aos (List.range' k l.length) st f st'
  | [], k, st, st', fps, _, h, f, _ => by
    simp only [runOpsF, Option.some.injEq, Prod.mk.injEq] at h
    simp only [List.length_nil, List.range'_zero, Runs]
    exact h.1.symm
  | o :: l, k, st, st', fps, ha, h, f, hf => by
    simp only [List.length_cons, List.range'_succ, Runs]
    have ho : aos[k]? = some o := by have := ha 0; simpa using this.symm
    have ha' : ∀ j, l[j]? = aos[k + 1 + j]? := fun j => by have := ha (j + 1); rw [show k + 1 + j = k + (j + 1) from by omega, ← this]; simp
    simp only [runOpsF] at h
    split at h
    · rename_i hw
      obtain ⟨a, h1, h⟩ := bind_some' h
      obtain ⟨⟨v, hp⟩, h2, h⟩ := bind_some' h
      obtain ⟨⟨st2, fps2⟩, h3, h⟩ := bind_some' h
      injection h with h
      injection h with e1 e2
      subst e1; subst e2
      refine ⟨o, _, ho, ?_, runOpsF_runs l (k + 1) _ _ fps2 ha' h3 f fun j hj => ?_⟩
      · simp only [stepO, hw, h1, h2, Option.bind_eq_bind, Option.bind_some]
        have := hf 0 (by simp)
        simp at this
        rw [this]
      · have := hf (j + 1) (by simp; omega)
        rw [show k + 1 + j = k + (j + 1) from by omega, this]
        simp
    · rename_i hw
      obtain ⟨⟨st2, fps2⟩, h3, h⟩ := bind_some' h
      injection h with h
      injection h with e1 e2
      subst e1; subst e2
      refine ⟨o, _, ho, ?_, runOpsF_runs l (k + 1) _ _ fps2 ha' h3 f fun j hj => ?_⟩
      · simp only [stepO, hw]
        have := hf 0 (by simp)
        simp at this
        rw [this]
      · have := hf (j + 1) (by simp; omega)
        rw [show k + 1 + j = k + (j + 1) from by omega, this]
        simp
    · cases h

theorem runOps_runOpsF : ∀ (l : List AO) (st st' : St), runOps T rec cx b0 l st = some st' → ∃ fps, runOpsF T rec cx b0 l st = some (st', fps)
  | [], st, st', h => by simp only [runOps, Option.some.injEq] at h; subst h; exact ⟨[], rfl⟩
  | o :: l, st, st', h => by
    simp only [runOps] at h
    split at h
    · rename_i hw
      obtain ⟨a, h1, h⟩ := bind_some' h
      obtain ⟨⟨v, hp⟩, h2, h⟩ := bind_some' h
      obtain ⟨fps, h3⟩ := runOps_runOpsF l _ _ h
      exact ⟨Fp.of T st.h hp a :: fps, by simp only [runOpsF, hw, h1, h2, h3, Option.bind_eq_bind, Option.bind_some]⟩
    · rename_i hw
      obtain ⟨fps, h3⟩ := runOps_runOpsF l _ _ h
      exact ⟨.nop :: fps, by simp only [runOpsF, hw, h3, Option.bind_eq_bind, Option.bind_some]⟩
    · cases h
end

/-- What is laid ahead. -/
structure PreSpec (k : Nat) (l : List AO) (r : List AO × List (List AV)) : Prop where
  len : r.1.length = l.length
  get : ∀ (i : Nat) (o : AO), l[i]? = some o → ∃ o', r.1[i]? = some o' ∧ o'.dst = o.dst ∧ o'.guard = o.guard ∧
      ((o' = o ∧ ∀ j, o'.op ≠ .palloc j) ∨ o'.op = .bad ∨ ∃ z j, o.op = .alloc z ∧ o'.op = .palloc (k + j) ∧ r.2[j]? = some z)
  le : ∀ (i : Nat) (o' : AO) (j : Nat), r.1[i]? = some o' → o'.op = .palloc j → k ≤ j
  inj : ∀ (i i' : Nat) (x y : AO) (j : Nat), r.1[i]? = some x → r.1[i']? = some y → x.op = .palloc j → y.op = .palloc j → i = i'

theorem PreSpec.plain {k : Nat} {l : List AO} {r : List AO × List (List AV)} (h : PreSpec k l r) (o o' : AO) (hd : o'.dst = o.dst) (hg : o'.guard = o.guard) (ho : o' = o ∨ o'.op = .bad) (hnp : ∀ j, o'.op ≠ .palloc j) : PreSpec k (o :: l) (o' :: r.1, r.2) where
  len := by simp [h.len]
  get i x hx := by
    cases i with
    | zero =>
      simp at hx
      subst hx
      refine ⟨o', rfl, hd, hg, ?_⟩
      rcases ho with ho | ho
      · exact .inl ⟨ho, hnp⟩
      · exact .inr (.inl ho)
    | succ i => simpa using h.get i x (by simpa using hx)
  le i x j hx hj := by
    cases i with
    | zero => simp at hx; subst hx; exact absurd hj (hnp j)
    | succ i => exact h.le i x j (by simpa using hx) hj
  inj i i' x y j hx hy hxj hyj := by
    cases i with
    | zero => simp at hx; subst hx; exact absurd hxj (hnp j)
    | succ i =>
      cases i' with
      | zero => simp at hy; subst hy; exact absurd hyj (hnp j)
      | succ i' => rw [h.inj i i' x y j (by simpa using hx) (by simpa using hy) hxj hyj]

theorem preAlloc_spec : ∀ (l : List AO) (k : Nat), PreSpec k l (preAlloc k l)
  | [], k => ⟨rfl, fun i o h => by simp at h, fun i o' j h => by simp [preAlloc] at h, fun i i' x y j h => by simp [preAlloc] at h⟩
  | ⟨d, op, g⟩ :: l, k => by
    by_cases ha : ∃ z, op = .alloc z
    · obtain ⟨z, rfl⟩ := ha
      obtain ⟨h1, h2, h3, h4⟩ := preAlloc_spec l (k + 1)
      simp only [preAlloc]
      refine ⟨by simp [h1], fun i x hx => ?_, fun i x j hx hj => ?_, fun i i' x y j hx hy hxj hyj => ?_⟩
      · cases i with
        | zero =>
          simp at hx
          subst hx
          exact ⟨_, rfl, rfl, rfl, .inr (.inr ⟨z, 0, rfl, rfl, rfl⟩)⟩
        | succ i =>
          obtain ⟨o', a1, a2, a3, a4⟩ := h2 i x (by simpa using hx)
          refine ⟨o', by simpa using a1, a2, a3, ?_⟩
          rcases a4 with a4 | a4 | ⟨z', j, b1, b2, b3⟩
          · exact .inl a4
          · exact .inr (.inl a4)
          · exact .inr (.inr ⟨z', j + 1, b1, by rw [b2]; congr 1; omega, by simpa using b3⟩)
      · cases i with
        | zero => simp at hx; subst hx; simp at hj; omega
        | succ i => have := h3 i x j (by simpa using hx) hj; omega
      · cases i with
        | zero =>
          cases i' with
          | zero => rfl
          | succ i' =>
            simp at hx
            subst hx
            simp at hxj
            have := h3 i' y j (by simpa using hy) hyj
            omega
        | succ i =>
          cases i' with
          | zero =>
            simp at hy
            subst hy
            simp at hyj
            have := h3 i x j (by simpa using hx) hxj
            omega
          | succ i' => rw [h4 i i' x y j (by simpa using hx) (by simpa using hy) hxj hyj]
    · by_cases hp : ∃ j, op = .palloc j
      · obtain ⟨j, rfl⟩ := hp
        exact (preAlloc_spec l k).plain ⟨d, .palloc j, g⟩ ⟨d, .bad, g⟩ rfl rfl (.inr rfl) (fun j h => by cases h)
      · have he : preAlloc k (⟨d, op, g⟩ :: l) = (⟨d, op, g⟩ :: (preAlloc k l).1, (preAlloc k l).2) := by
          cases op <;> first
            | rfl
            | exact absurd ⟨_, rfl⟩ ha
            | exact absurd ⟨_, rfl⟩ hp
        rw [he]
        exact (preAlloc_spec l k).plain ⟨d, op, g⟩ ⟨d, op, g⟩ rfl rfl (.inl rfl) (fun j h => hp ⟨j, h⟩)

/-- Pairs that may change places. -/
theorem unordWith_spec {M : Nat → Bool} {bj : Nat} {oj : AO} {j : Nat} {whole : List AO} : ∀ (l : List AO) (i : Nat) (u : List (Nat × Nat)), unordWith M whole bj oj j i l = some u →
    ∀ (k : Nat) (oi : AO), l[k]? = some oi → bj.testBit (i + k) = true ∨ (oi.apart oj = true ∧ (clash (cls M oi.op) (cls M oj.op) = false ∨ (i + k, j) ∈ u))
  | [], i, u, _, k, oi, hk => by simp at hk
  | o :: l, i, u, h, k, oi, hk => by
    simp only [unordWith] at h
    obtain ⟨r, h1, h⟩ := bind_some' h
    have ih := unordWith_spec l (i + 1) r h1
    cases k with
    | zero =>
      simp at hk
      subst hk
      split at h
      · rename_i hb; exact .inl hb
      · split at h
        · rename_i hap
          split at h
          · injection h with h
            subst h
            exact .inr ⟨hap, .inr (by simp)⟩
          · rename_i hc
            exact .inr ⟨hap, .inl (by simpa using hc)⟩
        · cases h
    | succ k =>
      have := ih k oi (by simpa using hk)
      rw [show i + 1 + k = i + (k + 1) from by omega] at this
      rcases this with this | ⟨t1, t2⟩
      · exact .inl this
      · refine .inr ⟨t1, ?_⟩
        rcases t2 with t2 | t2
        · exact .inl t2
        · right
          split at h
          · injection h with h; subst h; exact t2
          · split at h
            · split at h <;> (injection h with h; subst h; simp [t2])
            · cases h

theorem unords_spec {M : Nat → Bool} {b : List Nat} {aos : List AO} : ∀ (l : List AO) (j : Nat) (u : List (Nat × Nat)), unords M aos b j l = some u →
    ∀ (k i : Nat) (oj oi : AO), l[k]? = some oj → i < j + k → aos[i]? = some oi → (b.getD (j + k) 0).testBit i = true ∨ (oi.apart oj = true ∧ (clash (cls M oi.op) (cls M oj.op) = false ∨ (i, j + k) ∈ u))
  | [], j, u, _, k, i, oj, oi, hk, _, _ => by simp at hk
  | o :: l, j, u, h, k, i, oj, oi, hk, hlt, hi => by
    simp only [unords] at h
    obtain ⟨r, h1, h⟩ := bind_some' h
    obtain ⟨s, h2, h⟩ := bind_some' h
    injection h with h
    subst h
    cases k with
    | zero =>
      simp at hk
      subst hk
      have := unordWith_spec _ _ _ h2 i oi (by rw [List.getElem?_take, if_pos (by omega)]; exact hi)
      simp only [Nat.zero_add] at this
      rcases this with this | ⟨t1, t2⟩
      · exact .inl this
      · refine .inr ⟨t1, ?_⟩
        rcases t2 with t2 | t2
        · exact .inl t2
        · exact .inr (by simp [t2])
    | succ k =>
      have := unords_spec l (j + 1) r h1 k i oj oi (by simpa using hk) (by omega) hi
      rw [show j + 1 + k = j + (k + 1) from by omega] at this
      rcases this with this | ⟨t1, t2⟩
      · exact .inl this
      · refine .inr ⟨t1, ?_⟩
        rcases t2 with t2 | t2
        · exact .inl t2
        · exact .inr (by simp [t2])

end Go.AM
end
