import Derived.Test.YtlnnhldhhaooiaaA02

set_option linter.unusedVariables false
set_option linter.unusedSimpArgs false
set_option linter.unusedSectionVars false
set_option linter.unnecessarySimpa false

section
/- What a step does to the heap: the invariant abides. -/
namespace Go.AM
open Go

variable {Γ : Env} {wp : Nat} {κ κ' : K} {H : Heap} {w w' : World}

theorem K.add_self (κ : K) (i ver : Nat) (x : Nat × Nat × Nat) : (κ.add i ver x).box i ver = some x := by simp [K.add]
theorem K.add_other (κ : K) {i ver j v : Nat} (x : Nat × Nat × Nat) (h : ¬ (j = i ∧ v = ver)) : (κ.add i ver x).box j v = κ.box j v := by simp [K.add, h]
theorem K.add_cases (κ : K) {i ver j v : Nat} {x y : Nat × Nat × Nat} (h : (κ.add i ver x).box j v = some y) : (j = i ∧ v = ver ∧ y = x) ∨ (¬ (j = i ∧ v = ver) ∧ κ.box j v = some y) := by
  by_cases hc : j = i ∧ v = ver
  · obtain ⟨rfl, rfl⟩ := hc
    rw [K.add_self] at h
    injection h with h
    exact .inl ⟨rfl, rfl, h.symm⟩
  · rw [K.add_other κ x hc] at h
    exact .inr ⟨hc, h⟩

/-- A box more, over a new block. -/
theorem HInv.pushV (ver : Nat) (hi : HInv Γ κ H w) {o : Obj} (hn : New w w' o) (bx : Box) (hver : ver ≤ bx.ver) (z : Nat)
    (hb : Le κ w (κ.add H.length ver (w.heap.size, 0, z)) w' → BoxOk Γ (κ.add H.length ver (w.heap.size, 0, z)) w' H.length bx) :
    Le κ w (κ.add H.length ver (w.heap.size, 0, z)) w' ∧ Fr wp κ H w (κ.add H.length ver (w.heap.size, 0, z)) (H ++ [bx]) w' ∧ HInv Γ (κ.add H.length ver (w.heap.size, 0, z)) (H ++ [bx]) w' := by
  have hno : ∀ v, κ.box H.length v = none := by
    intro v
    cases h : κ.box H.length v with
    | none => rfl
    | some x => exact absurd (hi.dom _ _ _ h) (Nat.lt_irrefl _)
  have hle : Le κ w (κ.add H.length ver (w.heap.size, 0, z)) w' := Le.new hi hn (fun _ _ h => h)
    (fun i v x h => by
      rw [K.add_other]
      · exact h
      · rintro ⟨rfl, _⟩; rw [hno] at h; cases h)
    (fun i v g b z' h => by
      rcases K.add_cases κ h with ⟨_, _, e⟩ | ⟨_, h⟩
      · injection e with e; exact .inr e
      · exact .inl h)
  refine ⟨hle, Fr.more hi (by simp) (fun j v hj => K.add_other κ _ (by omega)) (fun j hj => List.getElem?_append_left hj) (fun k hk => hn.old k hk), ?_, ?_, ?_, ?_, ?_, ?_⟩
  · intro i v x h
    rcases K.add_cases κ h with ⟨rfl, _, _⟩ | ⟨_, h⟩
    · simp
    · have := hi.dom _ _ _ h; simp; omega
  · intro i v g b z' h
    rcases K.add_cases κ h with ⟨_, _, e⟩ | ⟨_, h⟩
    · injection e with e; rw [hn.size]; omega
    · have := hi.lt _ _ _ _ _ h; rw [hn.size]; omega
  · intro i b hib
    by_cases hil : i < H.length
    · rw [List.getElem?_append_left hil] at hib
      refine (hi.box i b hib).le hle fun g b' z' h => ?_
      rcases K.add_cases κ h with ⟨rfl, _, _⟩ | ⟨_, h⟩
      · exact absurd hil (Nat.lt_irrefl _)
      · exact ⟨h, hn.old g (hi.lt _ _ _ _ _ h), fun _ h => h⟩
    · rw [List.getElem?_append_right (by omega)] at hib
      have : i = H.length := by
        by_cases e : i = H.length
        · exact e
        · have : i - H.length ≠ 0 := by omega
          cases hk : i - H.length with
          | zero => exact absurd hk this
          | succ n => rw [hk] at hib; simp at hib
      subst this
      simp at hib
      subst hib
      exact hb hle
  · intro i j bi bj hbi hbj hij li lj g b' z' g' b'' z'' h1 h2
    have key : ∀ (i j : Nat) (bi bj : Box), (H ++ [bx])[i]? = some bi → (H ++ [bx])[j]? = some bj → i ≠ j → bi.live = true → bj.live = true → i < H.length → ∀ g b' z' g' b'' z'', (κ.add H.length ver (w.heap.size, 0, z)).box i bi.ver = some (g, b', z') → (κ.add H.length ver (w.heap.size, 0, z)).box j bj.ver = some (g', b'', z'') → g ≠ g' := by
      intro i j bi bj hbi hbj hij li lj hil g b' z' g' b'' z'' h1 h2
      rcases K.add_cases κ h1 with ⟨rfl, _, _⟩ | ⟨_, h1⟩
      · exact absurd hil (Nat.lt_irrefl _)
      · rcases K.add_cases κ h2 with ⟨rfl, _, e⟩ | ⟨_, h2⟩
        · injection e with e
          have := hi.lt _ _ _ _ _ h1
          omega
        · have hjl := hi.dom _ _ _ h2
          rw [List.getElem?_append_left hil] at hbi
          rw [List.getElem?_append_left hjl] at hbj
          exact hi.disj i j bi bj hbi hbj hij li lj _ _ _ _ _ _ h1 h2
    by_cases hil : i < H.length
    · exact key i j bi bj hbi hbj hij li lj hil _ _ _ _ _ _ h1 h2
    · have hjl : j < H.length := by
        have := (List.getElem?_eq_some_iff.1 hbi).1
        have := (List.getElem?_eq_some_iff.1 hbj).1
        simp at *
        omega
      exact (key j i bj bi hbj hbi (Ne.symm hij) lj li hjl _ _ _ _ _ _ h2 h1).symm
  · intro i v x b h hib hl
    rcases K.add_cases κ h with ⟨rfl, rfl, _⟩ | ⟨_, h⟩
    · simp at hib; subst hib; exact hver
    · rw [List.getElem?_append_left (hi.dom _ _ _ h)] at hib
      exact hi.vers i v x b h hib hl
  · intro g p h
    obtain ⟨v, hv⟩ := hi.frz g p h
    exact ⟨v, (cell_of_heap (hn.old g (lt_of_cell hv))).trans hv⟩

theorem HInv.push (hi : HInv Γ κ H w) {o : Obj} (hn : New w w' o) (bx : Box) (z : Nat)
    (hb : Le κ w (κ.add H.length 0 (w.heap.size, 0, z)) w' → BoxOk Γ (κ.add H.length 0 (w.heap.size, 0, z)) w' H.length bx) :
    Le κ w (κ.add H.length 0 (w.heap.size, 0, z)) w' ∧ Fr wp κ H w (κ.add H.length 0 (w.heap.size, 0, z)) (H ++ [bx]) w' ∧ HInv Γ (κ.add H.length 0 (w.heap.size, 0, z)) (H ++ [bx]) w' :=
  HInv.pushV 0 hi hn bx (Nat.zero_le _) z hb

/-- A live box's own block is written. -/
theorem Le.put {g : Nat} {o : Obj} (hp : Put w w' g o) (hsh : ∀ s, w.shape? g = some s → w'.shape? g = some s)
    (hnf : ∀ p, ¬ κ.frz g p) (hown : ∃ i v b z, κ.box i v = some (g, b, z)) (hbox : ∀ i v x, κ.box i v = some x → κ'.box i v = some x) (hfr : κ'.frz = κ.frz)
    (hb2 : ∀ i v g' b z, κ'.box i v = some (g', b, z) → κ.box i v = some (g', b, z) ∨ g' = g) : Le κ w κ' w' where
  frz g' p h := by rw [hfr]; exact h
  box := hbox
  keep g' p h := cell_of_heap (hp.other g' (fun e => by subst e; exact hnf p h))
  shape g' s h := by
    by_cases e : g' = g
    · subst e; exact hsh s h
    · exact (shape_of_heap (hp.other g' e)).trans h
  size := Nat.le_of_eq hp.size.symm
  os := hp.os
  tape := hp.tape
  output := hp.output
  drawn := hp.drawn
  blk g' _ hn := hp.other g' (fun e => by subst e; obtain ⟨i, v, b, z, h⟩ := hown; exact hn _ _ _ _ h)
  own i v g' b z h _ := by
    rcases hb2 i v g' b z h with h | h
    · exact ⟨_, _, _, _, h⟩
    · subst h; exact hown

theorem set_get {α : Type} {l : List α} {i j : Nat} {a b : α} (h : (l.set i a)[j]? = some b) : (i = j ∧ b = a) ∨ (i ≠ j ∧ l[j]? = some b) := by
  by_cases e : i = j
  · subst e
    rw [List.getElem?_set_self'] at h
    cases h2 : l[i]? with
    | none => rw [h2] at h; cases h
    | some x => rw [h2] at h; simp at h; exact .inl ⟨rfl, h.symm⟩
  · rw [List.getElem?_set_ne e] at h
    exact .inr ⟨e, h⟩

/-- A live box holds something else, in its own block; under its own version, or dead. -/
theorem HInv.put (hi : HInv Γ κ H w) {i : Nat} {bx bx' : Box} {g b z : Nat} {o : Obj} (hbx : H[i]? = some bx) (hl : bx.live = true) (hκ : κ.box i bx.ver = some (g, b, z))
    (hp : Put w w' g o) (hsh : ∀ s, w.shape? g = some s → w'.shape? g = some s) (hnf : ∀ p, ¬ κ.frz g p) (hver : bx'.live = true → bx'.ver = bx.ver) (hwp : wp ≤ i)
    (hb : Le κ w κ w' → BoxOk Γ κ w' i bx') : Le κ w κ w' ∧ Fr wp κ H w κ (H.set i bx') w' ∧ HInv Γ κ (H.set i bx') w' := by
  have hle : Le κ w κ w' := Le.put hp hsh hnf ⟨_, _, _, _, hκ⟩ (fun _ _ _ h => h) rfl (fun _ _ _ _ _ h => .inl h)
  refine ⟨hle, Fr.one hi hwp hbx hl hκ (by simp) (fun _ _ _ => rfl) (fun j hj => List.getElem?_set_ne (Ne.symm hj)) (fun k _ hk => hp.other k hk), ?_, ?_, ?_, ?_, ?_, ?_⟩
  · intro j v x h; rw [List.length_set]; exact hi.dom _ _ _ h
  · intro j v g' b' z' h; rw [hp.size]; exact hi.lt _ _ _ _ _ h
  · intro j bj hj
    rcases set_get hj with ⟨rfl, rfl⟩ | ⟨hne, hj⟩
    · exact hb hle
    · cases hlj : bj.live with
      | false => cases bj <;> first | (simp [Box.live] at hlj; done) | trivial
      | true =>
        refine (hi.box j bj hj).le hle fun g' b' z' h => ⟨h, ?_, fun _ h => h⟩
        exact hp.other g' (fun e => hi.disj i j bx bj hbx hj hne hl hlj _ _ _ _ _ _ hκ h e.symm)
  · intro j k bj bk hbj hbk hjk lj lk g1 b1 z1 g2 b2 z2 h1 h2
    rcases set_get hbj with ⟨rfl, rfl⟩ | ⟨hne, hbj'⟩
    · rcases set_get hbk with ⟨rfl, rfl⟩ | ⟨hne2, hbk'⟩
      · exact absurd rfl hjk
      · rw [hver lj] at h1
        exact hi.disj i k bx bk hbx hbk' hjk hl lk _ _ _ _ _ _ h1 h2
    · rcases set_get hbk with ⟨rfl, rfl⟩ | ⟨hne2, hbk'⟩
      · rw [hver lk] at h2
        exact hi.disj j i bj bx hbj' hbx hjk lj hl _ _ _ _ _ _ h1 h2
      · exact hi.disj j k bj bk hbj' hbk' hjk lj lk _ _ _ _ _ _ h1 h2
  · intro j v x bj h hj hlj
    rcases set_get hj with ⟨rfl, rfl⟩ | ⟨hne, hj⟩
    · rw [hver hlj]; exact hi.vers i v x bx h hbx hl
    · exact hi.vers j v x bj h hj hlj
  · intro g' p h
    obtain ⟨v, hv⟩ := hi.frz g' p h
    exact ⟨v, (hle.keep g' p h).trans hv⟩

/-- A box is dead. -/
theorem HInv.kill (hi : HInv Γ κ H w) (i : Nat) : HInv Γ κ (H.set i .dead) w where
  dom j v x h := by rw [List.length_set]; exact hi.dom _ _ _ h
  lt := hi.lt
  box j bj hj := by
    rcases set_get hj with ⟨rfl, rfl⟩ | ⟨_, hj⟩
    · trivial
    · exact hi.box j bj hj
  disj j k bj bk hbj hbk hjk lj lk := by
    rcases set_get hbj with ⟨rfl, rfl⟩ | ⟨_, hbj⟩
    · cases lj
    · rcases set_get hbk with ⟨rfl, rfl⟩ | ⟨_, hbk⟩
      · cases lk
      · exact hi.disj j k bj bk hbj hbk hjk lj lk
  vers j v x bj h hj hl := by
    rcases set_get hj with ⟨rfl, rfl⟩ | ⟨_, hj⟩
    · cases hl
    · exact hi.vers j v x bj h hj hl
  frz := hi.frz

/-- A row's next version, in its own block. -/
theorem HInv.bump (hi : HInv Γ κ H w) {i ver : Nat} {es es' : List (List AV)} {g b b' z : Nat} {o : Obj} (hbx : H[i]? = some (.cells ver es)) (hκ : κ.box i ver = some (g, b, z))
    (hp : Put w w' g o) (hsh : ∀ s, w.shape? g = some s → w'.shape? g = some s) (hnf : ∀ p, ¬ κ.frz g p) (hwp : wp ≤ i)
    (hb : Le κ w (κ.add i (2 * ver + 2) (g, b', z)) w' → BoxOk Γ (κ.add i (2 * ver + 2) (g, b', z)) w' i (.cells (2 * ver + 2) es')) :
    Le κ w (κ.add i (2 * ver + 2) (g, b', z)) w' ∧ Fr wp κ H w (κ.add i (2 * ver + 2) (g, b', z)) (H.set i (.cells (2 * ver + 2) es')) w' ∧ HInv Γ (κ.add i (2 * ver + 2) (g, b', z)) (H.set i (.cells (2 * ver + 2) es')) w' := by
  have hno : κ.box i (2 * ver + 2) = none := by
    cases h : κ.box i (2 * ver + 2) with
    | none => rfl
    | some x => exact absurd (hi.vers i _ x _ h hbx rfl) (by simp only [Box.ver]; omega)
  have hle : Le κ w (κ.add i (2 * ver + 2) (g, b', z)) w' := Le.put hp hsh hnf ⟨_, _, _, _, hκ⟩
    (fun j v x h => by
      rw [K.add_other]
      · exact h
      · rintro ⟨rfl, rfl⟩; rw [hno] at h; cases h) rfl
    (fun j v g' b'' z' h => by
      rcases K.add_cases κ h with ⟨_, _, e⟩ | ⟨_, h⟩
      · injection e with e; exact .inr e
      · exact .inl h)
  refine ⟨hle, Fr.one hi hwp hbx rfl hκ (by simp) (fun j v hj => K.add_other κ _ (fun e => hj e.1)) (fun j hj => List.getElem?_set_ne (Ne.symm hj)) (fun k _ hk => hp.other k hk), ?_, ?_, ?_, ?_, ?_, ?_⟩
  · intro j v x h; rw [List.length_set]
    rcases K.add_cases κ h with ⟨rfl, _, _⟩ | ⟨_, h⟩
    · exact hi.dom _ _ _ hκ
    · exact hi.dom _ _ _ h
  · intro j v g' b'' z' h; rw [hp.size]
    rcases K.add_cases κ h with ⟨_, _, e⟩ | ⟨_, h⟩
    · injection e with e; subst e; exact hp.lt
    · exact hi.lt _ _ _ _ _ h
  · intro j bj hj
    rcases set_get hj with ⟨rfl, rfl⟩ | ⟨hne, hj⟩
    · exact hb hle
    · cases hlj : bj.live with
      | false => cases bj <;> first | (simp [Box.live] at hlj; done) | trivial
      | true =>
        refine (hi.box j bj hj).le hle fun g' b'' z' h => ?_
        rcases K.add_cases κ h with ⟨e, _, _⟩ | ⟨_, h⟩
        · exact absurd e.symm hne
        · exact ⟨h, hp.other g' (fun e => hi.disj i j _ bj hbx hj hne rfl hlj _ _ _ _ _ _ hκ h e.symm), fun _ h => h⟩
  · intro j k bj bk hbj hbk hjk lj lk g1 b1 z1 g2 b2 z2 h1 h2
    rcases set_get hbj with ⟨rfl, rfl⟩ | ⟨hne, hbj⟩
    · rcases set_get hbk with ⟨rfl, rfl⟩ | ⟨hne2, hbk⟩
      · exact absurd rfl hjk
      · simp only [Box.ver] at h1
        rw [K.add_self] at h1
        injection h1 with h1
        injection h1 with h1
        subst h1
        rcases K.add_cases κ h2 with ⟨e, _, _⟩ | ⟨_, h2⟩
        · exact absurd e.symm hjk
        · exact hi.disj i k _ bk hbx hbk hjk rfl lk _ _ _ _ _ _ hκ h2
    · rcases K.add_cases κ h1 with ⟨e, _, _⟩ | ⟨_, h1⟩
      · exact absurd e.symm hne
      · rcases set_get hbk with ⟨rfl, rfl⟩ | ⟨hne2, hbk⟩
        · simp only [Box.ver] at h2
          rw [K.add_self] at h2
          injection h2 with h2
          injection h2 with h2
          subst h2
          exact hi.disj j i bj _ hbj hbx hjk lj rfl _ _ _ _ _ _ h1 hκ
        · rcases K.add_cases κ h2 with ⟨e, _, _⟩ | ⟨_, h2⟩
          · exact absurd e.symm hne2
          · exact hi.disj j k bj bk hbj hbk hjk lj lk _ _ _ _ _ _ h1 h2
  · intro j v x bj h hj hlj
    rcases set_get hj with ⟨rfl, rfl⟩ | ⟨hne, hj⟩
    · rcases K.add_cases κ h with ⟨_, rfl, _⟩ | ⟨_, h⟩
      · exact Nat.le_refl _
      · have := hi.vers i v x _ h hbx rfl; simp only [Box.ver] at *; omega
    · rcases K.add_cases κ h with ⟨e, _, _⟩ | ⟨_, h⟩
      · exact absurd e.symm hne
      · exact hi.vers j v x bj h hj hlj
  · intro g' p h
    obtain ⟨v, hv⟩ := hi.frz g' p h
    exact ⟨v, (hle.keep g' p h).trans hv⟩

/-- A row's next version, in a new block. -/
theorem HInv.move (hi : HInv Γ κ H w) {i ver : Nat} {es es' : List (List AV)} {x : Nat × Nat × Nat} {z : Nat} {o : Obj} (hbx : H[i]? = some (.cells ver es)) (hκ : κ.box i ver = some x)
    (hn : New w w' o) (hwp : wp ≤ i)
    (hb : Le κ w (κ.add i (2 * ver + 2) (w.heap.size, 0, z)) w' → BoxOk Γ (κ.add i (2 * ver + 2) (w.heap.size, 0, z)) w' i (.cells (2 * ver + 2) es')) :
    Le κ w (κ.add i (2 * ver + 2) (w.heap.size, 0, z)) w' ∧ Fr wp κ H w (κ.add i (2 * ver + 2) (w.heap.size, 0, z)) (H.set i (.cells (2 * ver + 2) es')) w' ∧ HInv Γ (κ.add i (2 * ver + 2) (w.heap.size, 0, z)) (H.set i (.cells (2 * ver + 2) es')) w' := by
  have hno : κ.box i (2 * ver + 2) = none := by
    cases h : κ.box i (2 * ver + 2) with
    | none => rfl
    | some x => exact absurd (hi.vers i _ x _ h hbx rfl) (by simp only [Box.ver]; omega)
  have hle : Le κ w (κ.add i (2 * ver + 2) (w.heap.size, 0, z)) w' := Le.new hi hn (fun _ _ h => h)
    (fun j v x h => by
      rw [K.add_other]
      · exact h
      · rintro ⟨rfl, rfl⟩; rw [hno] at h; cases h)
    (fun j v g' b'' z' h => by
      rcases K.add_cases κ h with ⟨_, _, e⟩ | ⟨_, h⟩
      · injection e with e; exact .inr e
      · exact .inl h)
  refine ⟨hle, Fr.one hi hwp hbx rfl (g := x.1) (b := x.2.1) (z := x.2.2) hκ (by simp) (fun j v hj => K.add_other κ _ (fun e => hj e.1)) (fun j hj => List.getElem?_set_ne (Ne.symm hj)) (fun k hk _ => hn.old k hk), ?_, ?_, ?_, ?_, ?_, ?_⟩
  · intro j v x h; rw [List.length_set]
    rcases K.add_cases κ h with ⟨rfl, _, _⟩ | ⟨_, h⟩
    · exact hi.dom _ _ _ hκ
    · exact hi.dom _ _ _ h
  · intro j v g' b'' z' h; rw [hn.size]
    rcases K.add_cases κ h with ⟨_, _, e⟩ | ⟨_, h⟩
    · injection e with e; subst e; omega
    · have := hi.lt _ _ _ _ _ h; omega
  · intro j bj hj
    rcases set_get hj with ⟨rfl, rfl⟩ | ⟨hne, hj⟩
    · exact hb hle
    · refine (hi.box j bj hj).le hle fun g' b'' z' h => ?_
      rcases K.add_cases κ h with ⟨e, _, _⟩ | ⟨_, h⟩
      · exact absurd e.symm hne
      · exact ⟨h, hn.old g' (hi.lt _ _ _ _ _ h), fun _ h => h⟩
  · have key : ∀ (k : Nat) (bk : Box), (H.set i (.cells (2 * ver + 2) es'))[k]? = some bk → i ≠ k → ∀ g2 b2 z2, (κ.add i (2 * ver + 2) (w.heap.size, 0, z)).box k bk.ver = some (g2, b2, z2) → g2 < w.heap.size := by
      intro k bk hbk hne g2 b2 z2 h2
      rcases K.add_cases κ h2 with ⟨e, _, _⟩ | ⟨_, h2⟩
      · exact absurd e.symm hne
      · exact hi.lt _ _ _ _ _ h2
    intro j k bj bk hbj hbk hjk lj lk g1 b1 z1 g2 b2 z2 h1 h2
    by_cases hj : i = j
    · subst hj
      rcases set_get hbj with ⟨_, rfl⟩ | ⟨hne, _⟩
      · simp only [Box.ver] at h1
        rw [K.add_self] at h1
        injection h1 with h1
        injection h1 with h1
        have := key k bk hbk hjk _ _ _ h2
        omega
      · exact absurd rfl hne
    · by_cases hk : i = k
      · subst hk
        rcases set_get hbk with ⟨_, rfl⟩ | ⟨hne, _⟩
        · simp only [Box.ver] at h2
          rw [K.add_self] at h2
          injection h2 with h2
          injection h2 with h2
          have := key j bj hbj hj _ _ _ h1
          omega
        · exact absurd rfl hne
      · rw [List.getElem?_set_ne hj] at hbj
        rw [List.getElem?_set_ne hk] at hbk
        rcases K.add_cases κ h1 with ⟨e, _, _⟩ | ⟨_, h1⟩
        · exact absurd e.symm hj
        · rcases K.add_cases κ h2 with ⟨e, _, _⟩ | ⟨_, h2⟩
          · exact absurd e.symm hk
          · exact hi.disj j k bj bk hbj hbk hjk lj lk _ _ _ _ _ _ h1 h2
  · intro j v x bj h hj hlj
    rcases set_get hj with ⟨rfl, rfl⟩ | ⟨hne, hj⟩
    · rcases K.add_cases κ h with ⟨_, rfl, _⟩ | ⟨_, h⟩
      · exact Nat.le_refl _
      · have := hi.vers i v x _ h hbx rfl; simp only [Box.ver] at *; omega
    · rcases K.add_cases κ h with ⟨e, _, _⟩ | ⟨_, h⟩
      · exact absurd e.symm hne
      · exact hi.vers j v x bj h hj hlj
  · intro g' p h
    obtain ⟨v, hv⟩ := hi.frz g' p h
    exact ⟨v, (hle.keep g' p h).trans hv⟩

/-- A new block that is frozen at once. -/
theorem HInv.freezeNew (hi : HInv Γ κ H w) {cs : Array Value} {T : TypeId} {fz : Nat × Nat} (hn : New w w' (.cells cs T fz)) :
    let κ' : K := { κ with frz := fun g o => κ.frz g o ∨ g = w.heap.size ∧ o < cs.size }
    Le κ w κ' w' ∧ Fr wp κ H w κ' H w' ∧ HInv Γ κ' H w' := by
  intro κ'
  have hle : Le κ w κ' w' := Le.new hi hn (fun _ _ h => .inl h) (fun _ _ _ h => h) (fun _ _ _ _ _ h => .inl h)
  refine ⟨hle, Fr.more hi (Nat.le_refl _) (fun _ _ _ => rfl) (fun _ _ => rfl) (fun k hk => hn.old k hk), hi.dom, ?_, ?_, hi.disj, hi.vers, ?_⟩
  · intro i v g b z h; have := hi.lt _ _ _ _ _ h; rw [hn.size]; omega
  · intro i b hib
    refine (hi.box i b hib).le hle fun g b' z' h => ⟨h, hn.old g (hi.lt _ _ _ _ _ h), fun o ho => ?_⟩
    rcases ho with ho | ⟨e, _⟩
    · exact ho
    · have := hi.lt _ _ _ _ _ h; omega
  · intro g p h
    rcases h with h | ⟨rfl, hp⟩
    · obtain ⟨v, hv⟩ := hi.frz g p h
      exact ⟨v, (cell_of_heap (hn.old g (lt_of_cell hv))).trans hv⟩
    · exact ⟨cs[p], by simp [World.cell?, hn.new, hp]⟩

/-- Only the count of draws has turned. -/
structure Same (w w' : World) : Prop where
  heap : w'.heap = w.heap
  os : w'.os = w.os
  tape : w'.tape = w.tape
  output : w'.output = w.output
  drawn : w.drawn ≤ w'.drawn

theorem Same.refl (w : World) : Same w w := ⟨rfl, rfl, rfl, rfl, Nat.le_refl _⟩
theorem Same.le (h : Same w w') (κ : K) : Le κ w κ w' where
  frz _ _ h := h
  box _ _ _ h := h
  keep g o _ := cell_of_heap (by rw [h.heap])
  shape g s hs := (shape_of_heap (by rw [h.heap])).trans hs
  size := by rw [h.heap]; exact Nat.le_refl _
  os := h.os
  tape := h.tape
  output := h.output
  drawn := h.drawn
  blk g _ _ := by rw [h.heap]
  own i v g b z hb _ := ⟨i, v, b, z, hb⟩
theorem HInv.same (hi : HInv Γ κ H w) (h : Same w w') : HInv Γ κ H w' where
  dom := hi.dom
  lt i v g b z hb := by rw [h.heap]; exact hi.lt i v g b z hb
  box i b hb := (hi.box i b hb).le (h.le κ) fun g b z hk => ⟨hk, by rw [h.heap], fun _ h => h⟩
  disj := hi.disj
  vers := hi.vers
  frz g o hf := by
    obtain ⟨v, hv⟩ := hi.frz g o hf
    exact ⟨v, ((h.le κ).keep g o hf).trans hv⟩

theorem New.alloc (w : World) (o : Obj) : New w (w.alloc o) o where
  new := heap_alloc_new w o
  old k h := heap_alloc_old w o k h
  size := by simp
  os := rfl
  tape := rfl
  output := rfl
  drawn := Nat.le_refl _
theorem New.drew_alloc (w : World) (o : Obj) : New w (w.drew.alloc o) o := ⟨heap_alloc_new w.drew o, fun k h => heap_alloc_old w.drew o k h, by simp, rfl, rfl, rfl, Nat.le_succ _⟩
theorem Put.setRow {g : Nat} {old : Array Value} {T : TypeId} {fr : Nat × Nat} (hg : w.heap[g]? = some (.cells old T fr)) (cs : Array Value) : Put w (w.setRow g cs) g (.cells cs T fr) where
  lt := (Array.getElem?_eq_some_iff.1 hg).1
  here := setRow_heap w g old cs T fr hg
  other k h := setRow_other w g k cs h
  size := by simp [World.setRow]
  os := rfl
  tape := rfl
  output := rfl
  drawn := Nat.le_refl _

end Go.AM
end
