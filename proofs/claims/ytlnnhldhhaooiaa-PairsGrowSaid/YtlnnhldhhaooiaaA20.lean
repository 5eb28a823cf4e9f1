import Derived.Test.YtlnnhldhhaooiaaA19

set_option linter.unusedVariables false
set_option linter.unusedSimpArgs false
set_option linter.unusedSectionVars false
set_option linter.unnecessarySimpa false

section
/- One operation: all of them. -/
namespace Go.AM
open Go

variable {Γ : Env} {wp : Nat} {κ κ' : K} {H H' : Heap} {w w' : World} {P : Program}

theorem run_max2 {a b r : AV} {x y : Value} (hx : V κ w a x) (hy : V κ w b y) (h : mx2 a b = some r) : ∃ u, (Builtin.max2 x y).run P w = .ok u w ∧ V κ w r u := by
  cases a <;> cases b <;> simp only [mx2, reduceCtorEq] at h
  split at h
  · rename_i hk
    injection h with h
    subst h; subst hk
    cases hx; cases hy
    exact ⟨_, rfl, rfl⟩
  · cases h
theorem run_min2 {a b r : AV} {x y : Value} (hx : V κ w a x) (hy : V κ w b y) (h : mn2 a b = some r) : ∃ u, (Builtin.min2 x y).run P w = .ok u w ∧ V κ w r u := by
  cases a <;> cases b <;> simp only [mn2, reduceCtorEq] at h
  split at h
  · rename_i hk
    injection h with h
    subst h; subst hk
    cases hx; cases hy
    exact ⟨_, rfl, rfl⟩
  · cases h

theorem run_fold {f : AV → AV → Option AV} {g : Value → Value → Sem Value} (hf : ∀ a b r x y, V κ w a x → V κ w b y → f a b = some r → ∃ u, (g x y).run P w = .ok u w ∧ V κ w r u) :
    ∀ (as : List AV) (xs : List Value) (a r : AV) (x : Value), VL κ w as xs → V κ w a x → foldO f a as = some r → ∃ u, (xs.foldlM g x).run P w = .ok u w ∧ V κ w r u
  | [], xs, a, r, x, h1, h2, h => by
    cases h1
    simp [foldO] at h
    subst h
    exact ⟨x, rfl, h2⟩
  | b :: as, xs, a, r, x, h1, h2, h => by
    obtain ⟨y, ys, rfl, h3, h4⟩ := h1
    simp only [foldO] at h
    obtain ⟨c, hc, h⟩ := bind_some h
    obtain ⟨u, u1, u2⟩ := hf a b c x y h2 h3 hc
    obtain ⟨z, z1, z2⟩ := run_fold hf as ys c r u h4 u2 h
    exact ⟨z, by simp [List.foldlM_cons, u1, z1], z2⟩

theorem trOO_sound {ρ : Operand → Value} {fr : List AV} (hρ : ∀ (x : Operand) (y : Opd), trO x = some y → V κ w (opd fr y) (ρ x)) {x : Option Operand} {y : Option Opd} (h : trOO x = some y) : OV κ w (y.map (opd fr)) (x.map ρ) ∧ x.isSome = y.isSome := by
  cases x with
  | none => simp [trOO] at h; subst h; exact ⟨trivial, rfl⟩
  | some x =>
    simp [trOO] at h
    obtain ⟨z, hz, rfl⟩ := h
    exact ⟨hρ x z hz, rfl⟩

theorem elemOf_some {t e : TypeId} (h : elemOf' P t = some e) : P.underlying t = some (.slice e) := by
  unfold elemOf' at h
  split at h
  · rename_i hu; injection h with h; subst h; exact hu
  · cases h

section
variable {T : Tab} {rec : Ctx → AC → St → Option (Ex × St)} {cx : Ctx} {fr : List AV} {b0 : Nat} {v : AV} {ac : Act} {ρ : Operand → Value}
variable (hρ : ∀ (x : Operand) (y : Opd), trO x = some y → V κ w (opd fr y) (ρ x))
include hρ

theorem op_len (hi : HInv Γ κ H w) {t ty : TypeId} {ds : TypeDesc} (hu : P.underlying t = some ds) {k : Nat} (hk : (k = 0 ∧ ds = .string) ∨ (k = 1 ∧ ∃ e, ds = .slice e) ∨ (k = 2 ∧ ∃ a b, ds = .map a b)) {x : Operand} {x' : Opd} (hx : trO x = some x')
    (hd : Does T rec cx fr b0 H (.len k x') v H') : Out Γ wp κ H w H' v ((do pure (.value (← Builtin.len_ #[t] ty #[ρ x])) : Sem Next).run P w) := by
  obtain ⟨ac, h1, _, _, h2⟩ := hd
  have hvx := hρ x x' hx
  simp only [act] at h1
  split at h1 <;> first
    | (cases h1; done)
    | (rename_i e0; rw [e0] at hvx; injection h1 with h1; subst h1)
  · simp only [doAct, Option.some.injEq, Prod.mk.injEq] at h2
    obtain ⟨rfl, rfl⟩ := h2
    obtain ⟨s', e1, rfl⟩ := hvx
    rcases hk with ⟨_, rfl⟩ | ⟨h, _⟩ | ⟨h, _⟩
    · rw [e1]
      exact Out.of hi ⟨.int .i64 s'.size, by simp [Builtin.len_, run_underlying hu, goInt], by simp [V]⟩
    · cases h
    · cases h
  · simp only [doAct, Option.some.injEq, Prod.mk.injEq] at h2
    obtain ⟨rfl, rfl⟩ := h2
    rcases hk with ⟨h, _⟩ | ⟨_, e, rfl⟩ | ⟨h, _⟩
    · cases h
    · rw [show ρ x = .slice none 0 0 from hvx]
      exact Out.of hi ⟨.int .i64 0, by simp [Builtin.len_, run_underlying hu, goInt], rfl⟩
    · cases h
  · simp only [doAct, Option.some.injEq, Prod.mk.injEq] at h2
    obtain ⟨rfl, rfl⟩ := h2
    rcases hk with ⟨h, _⟩ | ⟨h, _⟩ | ⟨_, a, b, rfl⟩
    · cases h
    · cases h
    · rw [show ρ x = .map none from hvx]
      exact Out.of hi ⟨.int .i64 0, by simp [Builtin.len_, run_underlying hu, goInt], rfl⟩
  · simp only [doAct, Option.some.injEq, Prod.mk.injEq] at h2
    obtain ⟨rfl, rfl⟩ := h2
    obtain ⟨a, z, cap, e1, _⟩ := hvx
    rcases hk with ⟨h, _⟩ | ⟨_, e, rfl⟩ | ⟨h, _⟩
    · cases h
    · rw [e1]
      exact Out.of hi ⟨_, by simp only [Builtin.len_]; simp [run_underlying hu]; rfl, rfl⟩
    · cases h
  · simp only [doAct, Option.some.injEq, Prod.mk.injEq] at h2
    obtain ⟨rfl, rfl⟩ := h2
    obtain ⟨g, b, cap, _, e1, _⟩ := hvx
    rcases hk with ⟨h, _⟩ | ⟨_, e, rfl⟩ | ⟨h, _⟩
    · cases h
    · rw [e1]
      exact Out.of hi ⟨_, by simp only [Builtin.len_]; simp [run_underlying hu]; rfl, rfl⟩
    · cases h
  · simp only [doAct] at h2
    split at h2
    · rename_i ks es hH
      injection h2 with h2
      injection h2 with h2 h3
      subst h2; subst h3
      rcases hk with ⟨h, _⟩ | ⟨h, _⟩ | ⟨_, a, b, rfl⟩
      · cases h
      · cases h
      · exact Out.of hi ⟨_, maplen_sound hi hu hvx hH, rfl⟩
    · cases h2

theorem op_b2s (hi : HInv Γ κ H w) {x : Operand} {x' : Opd} (hx : trO x = some x') (hd : Does T rec cx fr b0 H (.b2s x') v H') : Out Γ wp κ H w H' v ((do pure (.value (← Conv.bytesToString (ρ x))) : Sem Next).run P w) := by
  obtain ⟨ac, h1, _, _, h2⟩ := hd
  have hvx := hρ x x' hx
  simp only [act] at h1
  split at h1
  · rename_i e0
    rw [e0] at hvx
    injection h1 with h1
    subst h1
    simp only [doAct, Option.some.injEq, Prod.mk.injEq] at h2
    obtain ⟨rfl, rfl⟩ := h2
    rw [show ρ x = .slice none 0 0 from hvx]
    exact Out.of hi ⟨_, rfl, _, rfl, rfl⟩
  · rename_i es full e0
    rw [e0] at hvx
    obtain ⟨s, hs, rfl⟩ := Option.map_eq_some_iff.1 h1
    simp only [doAct, Option.some.injEq, Prod.mk.injEq] at h2
    obtain ⟨rfl, rfl⟩ := h2
    exact Out.of hi (b2s_fs hvx hs)
  · rename_i i ver o n c zr e0
    rw [e0] at hvx
    split at h1
    · rename_i hz
      injection h1 with h1
      subst h1
      simp only [doAct] at h2
      obtain ⟨es, e1, h2⟩ := bind_some h2
      obtain ⟨s, e2, h2⟩ := bind_some h2
      injection h2 with h2
      injection h2 with h2 h3
      subst h2; subst h3
      exact Out.of hi (b2s_row hi hvx e1 e2)
    · cases h1
  · cases h1


omit hρ in
theorem trOs_two {l : Array Operand} {a b : Opd} (h : trOs l = some [a, b]) : ∃ x y, l = #[x, y] ∧ trO x = some a ∧ trO y = some b := by
  obtain ⟨h1, h2⟩ := mapO_some h
  have hl : l.toList.length = 2 := h1
  match hm : l.toList, hl with
  | [x, y], _ =>
    rw [hm] at h2
    obtain ⟨p, p1, p2⟩ := h2 0 a rfl
    obtain ⟨q, q1, q2⟩ := h2 1 b rfl
    simp at p1 q1
    subst p1; subst q1
    exact ⟨x, y, by cases l; simp at hm; rw [hm], p2, q2⟩

omit hρ in
theorem trOs_one {l : Array Operand} {a : Opd} (h : trOs l = some [a]) : ∃ x, l = #[x] ∧ trO x = some a := by
  obtain ⟨h1, h2⟩ := mapO_some h
  have hl : l.toList.length = 1 := h1
  match hm : l.toList, hl with
  | [x], _ =>
    rw [hm] at h2
    obtain ⟨p, p1, p2⟩ := h2 0 a rfl
    simp at p1
    subst p1
    exact ⟨x, by cases l; simp at hm; rw [hm], p2⟩

omit hρ in
theorem run_builtin (c : Call) (ty : TypeId) {b : Builtin} (h : c.callee = .builtin b) : ∃ consts, ((do let d ← resolve ρ c ty; invoke d.target d.args) : Sem Next).run P w = (builtin b c.argTypes ty consts (c.args.map ρ)).run P w := by
  apply Exists.intro
  simp only [resolve, h, invoke, Sem.run_bind, Sem.run_pure, Result.andThen_ok]
  rfl

theorem op_fold (hi : HInv Γ κ H w) {f : AV → AV → Option AV} {g : Value → Value → Sem Value} (hf : ∀ a b r x y, V κ w a x → V κ w b y → f a b = some r → ∃ u, (g x y).run P w = .ok u w ∧ V κ w r u) {l : Array Operand} {as : List Opd} (hl : trOs l = some as)
    (hr : foldO1 f (as.map (opd fr)) = some v) (F : Array Value → Sem Value) (hF : ∀ x xs, F ⟨x :: xs⟩ = xs.foldlM g x) : Out Γ wp κ H w H v ((do pure (.value (← F (l.map ρ))) : Sem Next).run P w) := by
  have hv : VL κ w (as.map (opd fr)) (l.toList.map ρ) := VL.map hl hρ
  have hlm : l.map ρ = ⟨l.toList.map ρ⟩ := by cases l; simp
  rw [hlm]
  generalize as.map (opd fr) = bs at hr hv
  cases bs with
  | nil => simp [foldO1] at hr
  | cons b bs =>
    obtain ⟨x, xs, e, h1, h2⟩ := hv
    rw [e, hF]
    exact Out.of hi (run_fold hf bs xs b v x h2 h1 hr)

theorem op_call (hi : HInv Γ κ H w) {c : Call} {ty : TypeId} {ao : AOp} (h : trCall P c = some ao) (hd : Does T rec cx fr b0 H ao v H') : Out Γ cx.wp κ H w H' v (((do let d ← resolve ρ c ty; invoke d.target d.args) : Sem Next).run P w) := by
  unfold trCall at h
  obtain ⟨args, hargs, h'⟩ := bind_some h
  clear h
  split at h'
  · injection h' with h; subst h
    obtain ⟨ac, h1, h2, _⟩ := hd
    simp only [act, Option.some.injEq] at h1
    exact absurd h1.symm (h2 _ _)
  · obtain ⟨g, _, h⟩ := bind_some h'
    injection h with h; subst h
    obtain ⟨ac, h1, h2, h3, _⟩ := hd
    simp only [act] at h1
    split at h1
    · injection h1 with h1; exact absurd h1.symm (h2 _ _)
    · injection h1 with h1; exact absurd h1.symm (h3 _ _)
    · cases h1
  · cases h'
  · rename_i b hb
    obtain ⟨consts, hrb⟩ := run_builtin (P := P) (w := w) (ρ := ρ) c ty hb
    rw [hrb]
    split at h'
    · rename_i s x t u hat
      obtain ⟨sx, xx, he, hs, hx⟩ := trOs_two hargs
      have hat' : c.argTypes = #[t, u] := by cases hc : c.argTypes; rw [hc] at hat; simp at hat; rw [hat]
      have hma : c.args.map ρ = #[ρ sx, ρ xx] := by rw [he]; simp
      obtain ⟨e, he', h1⟩ := bind_some h'
      clear h'
      obtain ⟨du, hu, h2⟩ := bind_some h1
      clear h1
      rw [hat', hma]
      split at h2
      · rename_i kn
        obtain ⟨z, hz, h3⟩ := bind_some h2
        clear h2
        split at h3
        · cases h3
        · rename_i hz0
          obtain ⟨bt, hb', h4⟩ := bind_some h3
          injection h4 with h4; subst h4
          exact op_appz hρ hi (elemOf_some he') hu hz hb' hz0 hs hx hd
      · rename_i e2
        obtain ⟨n1, hn1, h3⟩ := bind_some h2
        obtain ⟨n2, hn2, h4⟩ := bind_some h3
        clear h2 h3
        split at h4
        · obtain ⟨z, hz, h5⟩ := bind_some h4
          obtain ⟨bt, hb', h6⟩ := bind_some h5
          injection h6 with h6; subst h6
          exact op_append hρ hi (elemOf_some he') hz rfl hb' (.inl ⟨_, hu⟩) hs hx hd
        · cases h4
      · obtain ⟨z, hz, h5⟩ := bind_some h2
        obtain ⟨bt, hb', h6⟩ := bind_some h5
        injection h6 with h6; subst h6
        exact op_append hρ hi (elemOf_some he') hz rfl hb' (.inr hu) hs hx hd
      · cases h2
    · rename_i s x t u hat
      obtain ⟨sx, xx, he, hs, hx⟩ := trOs_two hargs
      have hat' : c.argTypes = #[t, u] := by cases hc : c.argTypes; rw [hc] at hat; simp at hat; rw [hat]
      have hma : c.args.map ρ = #[ρ sx, ρ xx] := by rw [he]; simp
      obtain ⟨e, he', h1⟩ := bind_some h'
      obtain ⟨n, hn, h2⟩ := bind_some h1
      injection h2 with h2; subst h2
      rw [hat', hma]
      exact op_copy hρ hi (elemOf_some he') hn hs hx hd
    · rename_i x t hat
      obtain ⟨xx, he, hx⟩ := trOs_one hargs
      have hat' : c.argTypes = #[t] := by cases hc : c.argTypes; rw [hc] at hat; simp at hat; rw [hat]
      have hma : c.args.map ρ = #[ρ xx] := by rw [he]; simp
      obtain ⟨e, he', h1⟩ := bind_some h'
      obtain ⟨z, hz, h2⟩ := bind_some h1
      injection h2 with h2; subst h2
      rw [hat', hma]
      exact op_clear hρ hi (elemOf_some he') hz hx hd
    · rename_i x t hat
      obtain ⟨xx, he, hx⟩ := trOs_one hargs
      have hat' : c.argTypes = #[t] := by cases hc : c.argTypes; rw [hc] at hat; simp at hat; rw [hat]
      have hma : c.args.map ρ = #[ρ xx] := by rw [he]; simp
      obtain ⟨du, hu, h2⟩ := bind_some h'
      clear h'
      rw [hat', hma]
      split at h2
      · injection h2 with h2; subst h2
        exact op_len hρ hi hu (.inl ⟨rfl, rfl⟩) hx hd
      · injection h2 with h2; subst h2
        exact op_len hρ hi hu (.inr (.inl ⟨rfl, _, rfl⟩)) hx hd
      · injection h2 with h2; subst h2
        exact op_len hρ hi hu (.inr (.inr ⟨rfl, _, _, rfl⟩)) hx hd
      · rename_i n e2
        injection h2 with h2; subst h2
        obtain ⟨h1, rfl⟩ := hd.val' (fun ac h => by simp only [act, Option.some.injEq] at h; exact ⟨_, h.symm⟩)
        simp only [act, Option.some.injEq, Act.val.injEq, opd] at h1
        subst h1
        exact Out.of hi ⟨_, by simp [Builtin.len_, run_underlying hu, goInt], rfl⟩
      · cases h2
    · rename_i x t hat
      obtain ⟨xx, he, hx⟩ := trOs_one hargs
      have hat' : c.argTypes = #[t] := by cases hc : c.argTypes; rw [hc] at hat; simp at hat; rw [hat]
      have hma : c.args.map ρ = #[ρ xx] := by rw [he]; simp
      obtain ⟨du, hu, h2⟩ := bind_some h'
      clear h'
      have hv := hρ xx x hx
      rw [hat', hma]
      split at h2
      · injection h2 with h2; subst h2
        obtain ⟨h1, rfl⟩ := hd.val' (fun ac h => by
          simp only [act] at h
          split at h
          · injection h with h; exact ⟨_, h.symm⟩
          · injection h with h; exact ⟨_, h.symm⟩
          · split at h
            · injection h with h; exact ⟨_, h.symm⟩
            · cases h
          · cases h)
        simp only [act] at h1
        split at h1
        · rename_i e0
          rw [e0] at hv
          injection h1 with h1
          injection h1 with h1
          subst h1
          rw [show ρ xx = .slice none 0 0 from hv]
          exact Out.of hi ⟨.int .i64 0, by simp [Builtin.cap_, run_underlying hu, goInt], rfl⟩
        · rename_i es e0
          rw [e0] at hv
          injection h1 with h1
          injection h1 with h1
          subst h1
          obtain ⟨a, z, cap, e1, _, e2, _⟩ := hv
          have := e2 rfl
          subst this
          rw [e1]
          exact Out.of hi ⟨.int .i64 es.length, by simp [Builtin.cap_, run_underlying hu, goInt], rfl⟩
        · rename_i i ver o n c' z e0
          split at h1
          · rename_i hodd
            rw [e0] at hv
            injection h1 with h1
            injection h1 with h1
            subst h1
            obtain ⟨g, b, cap, _, e1, _, _, _, _, _, _, e2⟩ := hv
            have := e2 hodd
            subst this
            rw [e1]
            exact Out.of hi ⟨.int .i64 cap, by simp [Builtin.cap_, run_underlying hu, goInt], rfl⟩
          · cases h1
        · cases h1
      · cases h2
    · injection h' with h; subst h
      obtain ⟨h1, rfl⟩ := hd.val' (fun ac h => by
        simp only [act] at h
        obtain ⟨a, _, rfl⟩ := Option.map_eq_some_iff.1 h
        exact ⟨_, rfl⟩)
      simp only [act] at h1
      obtain ⟨r, hr, h1⟩ := Option.map_eq_some_iff.1 h1
      injection h1 with h1
      subst h1
      exact op_fold hρ hi (fun a b r x y => run_max2) hargs hr (Builtin.max_ c.argTypes ty) (fun x xs => rfl)
    · injection h' with h; subst h
      obtain ⟨h1, rfl⟩ := hd.val' (fun ac h => by
        simp only [act] at h
        obtain ⟨a, _, rfl⟩ := Option.map_eq_some_iff.1 h
        exact ⟨_, rfl⟩)
      simp only [act] at h1
      obtain ⟨r, hr, h1⟩ := Option.map_eq_some_iff.1 h1
      injection h1 with h1
      subst h1
      exact op_fold hρ hi (fun a b r x y => run_min2) hargs hr (Builtin.min_ c.argTypes ty) (fun x xs => rfl)
    · cases h'

/-- All operations but calls. -/
theorem op_sound (hi : HInv Γ κ H w) {o : Oper} {ao : AOp} (h : trOp P o.op = some ao) (hd : Does T rec cx fr b0 H ao v H') : Out Γ cx.wp κ H w H' v ((execOp ρ o).run P w) := by
  replace h := (trOp_some h).1
  unfold execOp
  cases hop : o.op <;> simp only [hop, trOp0] at h ⊢ <;> try (cases h; done)
  case move x =>
    obtain ⟨y, hy, rfl⟩ := Option.map_eq_some_iff.1 h
    obtain ⟨h1, rfl⟩ := hd.val' (fun ac h => by simp only [act, Option.some.injEq] at h; exact ⟨_, h.symm⟩)
    simp only [act, Option.some.injEq, Act.val.injEq] at h1
    subst h1
    exact Out.val hi rfl (hρ x y hy)
  case assign x =>
    obtain ⟨y, hy, rfl⟩ := Option.map_eq_some_iff.1 h
    obtain ⟨h1, rfl⟩ := hd.val' (fun ac h => by simp only [act, Option.some.injEq] at h; exact ⟨_, h.symm⟩)
    simp only [act, Option.some.injEq, Act.val.injEq] at h1
    subst h1
    exact Out.val hi rfl (hρ x y hy)
  case pick c a b =>
    obtain ⟨c', hc, h⟩ := bind_some h
    obtain ⟨a', ha, h⟩ := bind_some h
    obtain ⟨b', hb, h⟩ := bind_some h
    injection h with h
    subst h
    have hvc := hρ c c' hc
    obtain ⟨h1, rfl⟩ := hd.val' (fun ac h => by
      simp only [act] at h
      split at h
      · injection h with h; exact ⟨_, h.symm⟩
      · cases h)
    simp only [act] at h1
    split at h1
    · rename_i t e0
      rw [e0] at hvc
      injection h1 with h1
      injection h1 with h1
      subst h1
      rw [show ρ c = .bool t from hvc]
      cases t
      · exact Out.val hi (by simp [asBool]) (hρ b b' hb)
      · exact Out.val hi (by simp [asBool]) (hρ a a' ha)
    · cases h1
  case alloc e =>
    obtain ⟨z, hz, rfl⟩ := Option.map_eq_some_iff.1 h
    exact op_alloc hρ hi hz hd
  case box e x =>
    obtain ⟨n, _, h⟩ := bind_some h
    split at h
    · cases h
    · obtain ⟨y, hy, h⟩ := bind_some h
      injection h with h
      subst h
      exact op_box hρ hi hy hd
  case build t ps =>
    obtain ⟨z, hz, h⟩ := bind_some h
    obtain ⟨ds, hu, h⟩ := bind_some h
    split at h
    · rename_i fs
      split at h
      · rename_i hall
        obtain ⟨qs, hq, h⟩ := bind_some h
        injection h with h
        subst h
        exact op_build hρ hi hz (.inl ⟨fs, hu, hall, hq⟩) hd
      · cases h
    · rename_i n e
      obtain ⟨m, hm, h⟩ := bind_some h
      obtain ⟨qs, hq, h⟩ := bind_some h
      injection h with h
      subst h
      exact op_build hρ hi hz (.inr ⟨n, e, m, hu, hm, hq⟩) hd
    · cases h
  case buildSlice t n ps =>
    obtain ⟨e, he, h⟩ := bind_some h
    obtain ⟨z, hz, h⟩ := bind_some h
    split at h
    · rename_i hc
      obtain ⟨qs, hq, h⟩ := bind_some h
      injection h with h
      subst h
      exact op_lit hρ hi (elemOf_some he) hz hc.1 hc.2 hq hd
    · cases h
  case load t a =>
    obtain ⟨ag, ha, h⟩ := bind_some h
    obtain ⟨n, hn, h⟩ := bind_some h
    obtain ⟨y, hy, h⟩ := bind_some h
    injection h with h
    subst h
    exact op_load hρ hi ha hn hy hd
  case store t a x =>
    obtain ⟨n, hn, h⟩ := bind_some h
    obtain ⟨y, hy, h⟩ := bind_some h
    obtain ⟨y', hy', h⟩ := bind_some h
    injection h with h
    subst h
    exact op_store hρ hi hn hy hy' hd
  case nilCheck x =>
    obtain ⟨y, hy, rfl⟩ := Option.map_eq_some_iff.1 h
    have hv := hρ x y hy
    obtain ⟨h1, rfl⟩ := hd.val' (fun ac h => by
      simp only [act] at h
      split at h
      · injection h with h; exact ⟨_, h.symm⟩
      · cases h)
    simp only [act] at h1
    split at h1
    · rename_i e0
      injection h1 with h1
      injection h1 with h1
      subst h1
      refine Out.val hi ?_ hv
      rcases isNil_sound hv e0 with ⟨h, _⟩ | ⟨_, h⟩
      · cases h
      · rcases h with ⟨a, e⟩ | ⟨a, n, c, e⟩ | ⟨r, e⟩ | ⟨f, a, b, e, hm⟩ | ⟨t, u, e⟩
        · rw [e]; rfl
        · rw [e]; rfl
        · rw [e]; rfl
        · rw [e]
          cases f <;> first
            | rfl
            | exact absurd rfl (hm _)
        · rw [e]; rfl
    · cases h1
  case binOp op t x y ty =>
    unfold trBin at h
    obtain ⟨x', hx, h⟩ := bind_some h
    obtain ⟨y', hy, h⟩ := bind_some h
    obtain ⟨ds, hu, h⟩ := bind_some h
    split at h
    · injection h with h; subst h; exact op_bin hρ hi hx hy hd
    · injection h with h; subst h; exact op_bin hρ hi hx hy hd
    · injection h with h; subst h; exact op_binb hρ hi hu hx hy hd
    · rename_i fs
      split at h
      · rename_i hg
        have hg' : P.eqGuardType P.depth t = false := by simpa using hg
        have hag : isAg P t = some true := by simp [isAg, hu]
        split at h
        · obtain ⟨ks, hks, h⟩ := bind_some h
          injection h with h; subst h
          exact op_eqa (neg := false) hρ hi hg' hks hag hx hy hd
        · obtain ⟨ks, hks, h⟩ := bind_some h
          injection h with h; subst h
          exact op_eqa (neg := true) hρ hi hg' hks hag hx hy hd
        · cases h
      · cases h
    · rename_i n e
      split at h
      · rename_i hg
        have hg' : P.eqGuardType P.depth t = false := by simpa using hg
        have hag : isAg P t = some true := by simp [isAg, hu]
        split at h
        · obtain ⟨ks, hks, h⟩ := bind_some h
          injection h with h; subst h
          exact op_eqa (neg := false) hρ hi hg' hks hag hx hy hd
        · obtain ⟨ks, hks, h⟩ := bind_some h
          injection h with h; subst h
          exact op_eqa (neg := true) hρ hi hg' hks hag hx hy hd
        · cases h
      · cases h
    · split at h
      · rename_i k hk
        split at h
        · split at h
          · rename_i hn
            injection h with h; subst h
            exact op_eqn (neg := false) hρ hi hu hk (.inl ⟨hn, hx⟩) hd
          · split at h
            · rename_i hn
              injection h with h; subst h
              exact op_eqn (neg := false) hρ hi hu hk (.inr ⟨hn, hy⟩) hd
            · cases h
        · split at h
          · rename_i hn
            injection h with h; subst h
            exact op_eqn (neg := true) hρ hi hu hk (.inl ⟨hn, hx⟩) hd
          · split at h
            · rename_i hn
              injection h with h; subst h
              exact op_eqn (neg := true) hρ hi hu hk (.inr ⟨hn, hy⟩) hd
            · cases h
        · cases h
      · cases h
  case unOp op t x =>
    obtain ⟨y, hy, rfl⟩ := Option.map_eq_some_iff.1 h
    obtain ⟨h1, rfl⟩ := hd.val' (fun ac h => by
      simp only [act] at h
      obtain ⟨a, _, rfl⟩ := Option.map_eq_some_iff.1 h
      exact ⟨_, rfl⟩)
    simp only [act] at h1
    obtain ⟨r, hr, h1⟩ := Option.map_eq_some_iff.1 h1
    injection h1 with h1
    subst h1
    exact Out.of hi (un_sound (hρ x y hy) hr)
  case convert s d x =>
    unfold trConv at h
    obtain ⟨y, hy, h'⟩ := bind_some h
    clear h
    obtain ⟨ds, hs, h⟩ := bind_some h'
    clear h'
    obtain ⟨dd, hdd, h'⟩ := bind_some h
    clear h
    have h := h'
    clear h'
    have hv := hρ x y hy
    split at h
    · rename_i k0 k
      injection h with h; subst h
      obtain ⟨h1, rfl⟩ := hd.val' (fun ac h => by
        simp only [act] at h
        split at h
        · injection h with h; exact ⟨_, h.symm⟩
        · cases h)
      simp only [act] at h1
      split at h1
      · rename_i k1 n e0
        rw [e0] at hv
        injection h1 with h1
        injection h1 with h1
        subst h1
        rw [show ρ x = .int k1 n from hv]
        exact Out.of hi ⟨_, by simp [convert, run_underlying hs, run_underlying hdd, Conv.intToInt], rfl⟩
      · cases h1
    · injection h with h; subst h
      obtain ⟨h1, rfl⟩ := hd.val' (fun ac h => by
        simp only [act] at h
        split at h
        · injection h with h; exact ⟨_, h.symm⟩
        · cases h)
      simp only [act] at h1
      split at h1
      · rename_i b e0
        rw [e0] at hv
        injection h1 with h1
        injection h1 with h1
        subst h1
        obtain ⟨b', e1, rfl⟩ := hv
        rw [e1]
        exact Out.of hi ⟨.string b', by simp [convert, run_underlying hs, run_underlying hdd], _, rfl, rfl⟩
      · cases h1
    · rename_i e
      obtain ⟨de, hde, h'⟩ := bind_some h
      clear h
      have h := h'
      clear h'
      split at h
      · injection h with h; subst h
        obtain ⟨ac, h1, _, _, h2⟩ := hd
        simp only [act] at h1
        split at h1
        · rename_i b e0
          rw [e0] at hv
          injection h1 with h1
          subst h1
          simp only [doAct, Option.some.injEq, Prod.mk.injEq] at h2
          obtain ⟨rfl, rfl⟩ := h2
          obtain ⟨b', e1, rfl⟩ := hv
          have := s2b_sound (wp := cx.wp) (P := P) hi (e := e) (s := b')
          rw [e1]
          have e2 : (convert s d (.string b')).run P w = (Conv.stringToBytes e b').run P w := by
            simp [convert, run_underlying hs, run_underlying hdd, run_underlying hde]
          simp only [Sem.run_bind] at this ⊢
          rw [e2]
          exact this
        · cases h1
      · cases h
    · rename_i e
      obtain ⟨de, hde, h⟩ := bind_some h
      split at h
      · injection h with h; subst h
        have key := op_b2s (wp := cx.wp) (P := P) hρ hi hy hd
        have e2 : ∀ u, (u = .slice none 0 0 ∨ ∃ a n c, u = .slice (some a) n c) → (convert s d u).run P w = (Conv.bytesToString u).run P w := by
          rintro u (rfl | ⟨a, n, c, rfl⟩) <;> simp [convert, run_underlying hs, run_underlying hdd, run_underlying hde]
        have hform : ρ x = .slice none 0 0 ∨ ∃ a n c, ρ x = .slice (some a) n c := by
          obtain ⟨ac, h1, _⟩ := hd
          simp only [act] at h1
          split at h1
          · rename_i e0; rw [e0] at hv; exact .inl hv
          · rename_i e0; rw [e0] at hv; obtain ⟨a, _, c, e1, _⟩ := hv; exact .inr ⟨a, _, c, e1⟩
          · rename_i e0; rw [e0] at hv; obtain ⟨g, b, c, _, e1, _⟩ := hv; exact .inr ⟨_, _, c, e1⟩
          · cases h1
        simp only [Sem.run_bind] at key ⊢
        rw [e2 _ hform]
        exact key
      · cases h
    · cases h
  case makeInterface t x =>
    obtain ⟨ds, hu, h⟩ := bind_some h
    have fin : ∀ y, trO x = some y → ao = .mkif t y → (∀ m, ds ≠ .interface m) → Out Γ cx.wp κ H w H' v ((do pure (.value (← Instr.makeInterface t (ρ x))) : Sem Next).run P w) := by
      intro y hy he hne
      subst he
      obtain ⟨h1, rfl⟩ := hd.val' (fun ac h => by
        simp only [act] at h
        split at h
        · injection h with h; exact ⟨_, h.symm⟩
        · cases h)
      simp only [act] at h1
      split at h1
      · injection h1 with h1
        injection h1 with h1
        subst h1
        refine Out.of hi ⟨.iface t (ρ x), ?_, _, rfl, hρ x y hy⟩
        cases ds <;> first
          | (exact absurd rfl (hne _))
          | simp [Instr.makeInterface, run_underlying hu]
      · cases h1
    split at h
    · cases h
    · rename_i hne
      obtain ⟨y, hy, h⟩ := bind_some h
      injection h with h
      exact fin y hy h.symm (fun m e => hne m e)
  case makeFunc fn first cap =>
    split at h
    · rename_i f hfe
      obtain ⟨cs, hcs, rfl⟩ := Option.map_eq_some_iff.1 h
      obtain ⟨h1, rfl⟩ := hd.val' (fun ac h => by simp only [act, Option.some.injEq] at h; exact ⟨_, h.symm⟩)
      simp only [act, Option.some.injEq, Act.val.injEq] at h1
      subst h1
      have hf : first = #[] := by cases first; simp at hfe; rw [hfe]
      subst hf
      refine Out.of hi ⟨.func (.func f) #[] (cap.map ρ), by simp [Instr.makeFunc], _, rfl, ?_⟩
      rw [Array.toList_map]
      exact VL.map hcs hρ
    · cases h
  case makeMap t r =>
    split at h
    · obtain ⟨ds, hu, h'⟩ := bind_some h
      clear h
      split at h'
      · obtain ⟨ks, hks, h⟩ := bind_some h'
        injection h with h; subst h
        exact op_mkmap hρ hi hd
      · cases h'
    · cases h
  case makeSlice t l c =>
    obtain ⟨e, he, h⟩ := bind_some h
    obtain ⟨z, hz, h⟩ := bind_some h
    split at h
    · cases h
    · obtain ⟨b, hb, h⟩ := bind_some h
      obtain ⟨l', hl, h⟩ := bind_some h
      obtain ⟨c', hc, h⟩ := bind_some h
      injection h with h; subst h
      exact op_mkslice hρ hi (elemOf_some he) hz hb hl hc hd
  case slice t x lo hi' mx =>
    obtain ⟨x', hx, h⟩ := bind_some h
    obtain ⟨lo', hlo, h⟩ := bind_some h
    obtain ⟨hi2, hhi, h⟩ := bind_some h
    obtain ⟨mx', hmx, h⟩ := bind_some h
    split at h
    · cases h
    · rename_i hne
      have hv := hρ x x' hx
      have olo := (trOO_sound hρ hlo).1
      have ohi := (trOO_sound hρ hhi).1
      have omx := (trOO_sound hρ hmx).1
      have hne' : (mx'.map (opd fr)).isSome = true → (hi2.map (opd fr)).isSome = true := by
        simp only [Option.isSome_map]
        intro hm
        cases hh : hi2.isSome with
        | true => rfl
        | false =>
          have : hi2.isNone = true := by cases hi2 <;> simp_all
          exact absurd (by simp [hm, this]) hne
      obtain ⟨ds, hu, h⟩ := bind_some h
      cases ds <;> simp only [] at h <;> try (cases h; done)
      case slice e =>
        obtain ⟨z, hz, h⟩ := bind_some h
        injection h with h; subst h
        obtain ⟨h1, rfl⟩ := hd.val' (fun ac h => by
          simp only [act] at h
          split at h
          · cases h
          · obtain ⟨a, _, rfl⟩ := Option.map_eq_some_iff.1 h
            exact ⟨_, rfl⟩)
        simp only [act] at h1
        split at h1
        · cases h1
        · rename_i hs
          obtain ⟨r, hr, h1⟩ := Option.map_eq_some_iff.1 h1
          injection h1 with h1
          subst h1
          exact Out.of hi (cut_slice hu hz hv olo ohi omx hne' (fun s e => hs s e) hr)
      case string =>
        injection h with h; subst h
        obtain ⟨h1, rfl⟩ := hd.val' (fun ac h => by
          simp only [act] at h
          split at h
          · obtain ⟨a, _, rfl⟩ := Option.map_eq_some_iff.1 h
            exact ⟨_, rfl⟩
          · cases h)
        simp only [act] at h1
        split at h1
        · rename_i s e0
          rw [e0] at hv
          obtain ⟨r, hr, h1⟩ := Option.map_eq_some_iff.1 h1
          injection h1 with h1
          subst h1
          exact Out.of hi (cut_string hu hv olo ohi omx hr)
        · cases h1
  case fieldAddr t x i =>
    obtain ⟨ds, hu, h⟩ := bind_some h
    cases ds <;> simp only [] at h <;> try (cases h; done)
    rename_i fs
    obtain ⟨f, hf, h⟩ := bind_some h
    obtain ⟨n, hn, h⟩ := bind_some h
    split at h
    · cases h
    · rename_i hn0
      obtain ⟨x', hx, h⟩ := bind_some h
      injection h with h; subst h
      have hv := hρ x x' hx
      obtain ⟨h1, rfl⟩ := hd.val' (fun ac h => by
        simp only [act] at h
        split at h
        · injection h with h; exact ⟨_, h.symm⟩
        · split at h
          · injection h with h; exact ⟨_, h.symm⟩
          · cases h
        · cases h)
      simp only [act] at h1
      split at h1
      · rename_i i' ver e f' e0
        rw [e0] at hv
        injection h1 with h1
        injection h1 with h1
        subst h1
        exact Out.of hi (fld_sound hu hf hn hn0 hv (.inl ⟨_, _, _, _, rfl, rfl⟩))
      · rename_i cs e0
        rw [e0] at hv
        split at h1
        · rename_i hle
          injection h1 with h1
          injection h1 with h1
          subst h1
          exact Out.of hi (fld_sound hu hf hn hn0 hv (.inr ⟨_, rfl, hle, rfl⟩))
        · cases h1
      · cases h1
  case field t x i =>
    obtain ⟨ds, hu, h⟩ := bind_some h
    cases ds <;> simp only [] at h <;> try (cases h; done)
    rename_i fs
    obtain ⟨f, hf, h⟩ := bind_some h
    obtain ⟨ag, ha, h⟩ := bind_some h
    obtain ⟨n, hn, h⟩ := bind_some h
    obtain ⟨x', hx, h⟩ := bind_some h
    injection h with h; subst h
    have hv := hρ x x' hx
    obtain ⟨h1, rfl⟩ := hd.val' (fun ac h => by
      simp only [act] at h
      split at h
      · obtain ⟨a, _, rfl⟩ := Option.map_eq_some_iff.1 h
        exact ⟨_, rfl⟩
      · cases h)
    simp only [act] at h1
    split at h1
    · rename_i cs e0
      rw [e0] at hv
      obtain ⟨r, hr, h1⟩ := Option.map_eq_some_iff.1 h1
      injection h1 with h1
      subst h1
      exact Out.of hi (field_sound hu hf hn ha hv hr)
    · cases h1
  case indexAddr t x i =>
    obtain ⟨ds, hu, h⟩ := bind_some h
    cases ds <;> simp only [] at h <;> try (cases h; done)
    case slice e =>
      obtain ⟨n, hn, h⟩ := bind_some h
      split at h
      · cases h
      · obtain ⟨z, hz, h⟩ := bind_some h
        obtain ⟨x', hx, h⟩ := bind_some h
        obtain ⟨i', hi', h⟩ := bind_some h
        injection h with h; subst h
        have hv := hρ x x' hx
        have hvi := hρ i i' hi'
        obtain ⟨h1, rfl⟩ := hd.val' (fun ac h => by
          simp only [act] at h
          split at h
          · split at h
            · split at h
              · split at h
                · injection h with h; exact ⟨_, h.symm⟩
                · cases h
              · cases h
            · cases h
          · split at h
            · injection h with h; exact ⟨_, h.symm⟩
            · cases h
          · cases h)
        simp only [act] at h1
        split at h1
        · rename_i es full k n' e0 e1
          rw [e0] at hv
          rw [e1] at hvi
          split at h1
          · rename_i h0
            split at h1
            · rename_i cs hcs
              split at h1
              · rename_i hl
                injection h1 with h1
                injection h1 with h1
                subst h1
                rw [show ρ i = .int k n' from hvi]
                exact Out.of hi (ixs_sound hu hz hv h0 (.inl ⟨es, full, cs, rfl, hcs, hl, rfl⟩))
              · cases h1
            · cases h1
          · cases h1
        · rename_i i2 ver o' m c zr k n' e0 e1
          rw [e0] at hv
          rw [e1] at hvi
          split at h1
          · rename_i h0
            obtain ⟨c1, c2, c3⟩ := h0
            subst c3
            injection h1 with h1
            injection h1 with h1
            subst h1
            rw [show ρ i = .int k n' from hvi]
            exact Out.of hi (ixs_sound hu hz hv c1 (.inr ⟨i2, ver, o', m, c, rfl, c2, rfl⟩))
          · cases h1
        · cases h1
    case array len e =>
      obtain ⟨z, hz, h⟩ := bind_some h
      obtain ⟨x', hx, h⟩ := bind_some h
      obtain ⟨i', hi', h⟩ := bind_some h
      injection h with h; subst h
      have hv := hρ x x' hx
      have hvi := hρ i i' hi'
      obtain ⟨h1, rfl⟩ := hd.val' (fun ac h => by
        simp only [act] at h
        split at h
        · split at h
          · injection h with h; exact ⟨_, h.symm⟩
          · cases h
        · split at h
          · injection h with h; exact ⟨_, h.symm⟩
          · cases h
        · cases h)
      simp only [act] at h1
      split at h1
      · rename_i i2 ver e' f k n' e0 e1
        rw [e0] at hv
        rw [e1] at hvi
        split at h1
        · rename_i h0
          injection h1 with h1
          injection h1 with h1
          subst h1
          rw [show ρ i = .int k n' from hvi]
          exact Out.of hi (ixa_sound hu hz hv h0.1 h0.2 (.inl ⟨_, _, _, _, rfl, rfl⟩))
        · cases h1
      · rename_i cs k n' e0 e1
        rw [e0] at hv
        rw [e1] at hvi
        split at h1
        · rename_i h0
          injection h1 with h1
          injection h1 with h1
          subst h1
          rw [show ρ i = .int k n' from hvi]
          exact Out.of hi (ixa_sound hu hz hv h0.1 h0.2.1 (.inr ⟨_, rfl, h0.2.2, rfl⟩))
        · cases h1
      · cases h1
  case index t x i =>
    obtain ⟨ds, hu, h⟩ := bind_some h
    cases ds <;> simp only [] at h <;> try (cases h; done)
    case array len e =>
      obtain ⟨ag, ha, h⟩ := bind_some h
      obtain ⟨z, hz, h⟩ := bind_some h
      obtain ⟨x', hx, h⟩ := bind_some h
      obtain ⟨i', hi', h⟩ := bind_some h
      injection h with h; subst h
      have hv := hρ x x' hx
      have hvi := hρ i i' hi'
      obtain ⟨h1, rfl⟩ := hd.val' (fun ac h => by
        simp only [act] at h
        split at h
        · split at h
          · obtain ⟨a, _, rfl⟩ := Option.map_eq_some_iff.1 h
            exact ⟨_, rfl⟩
          · cases h
        · cases h)
      simp only [act] at h1
      split at h1
      · rename_i cs k n' e0 e1
        rw [e0] at hv
        rw [e1] at hvi
        split at h1
        · rename_i h0
          obtain ⟨r, hr, h1⟩ := Option.map_eq_some_iff.1 h1
          injection h1 with h1
          subst h1
          rw [show ρ i = .int k n' from hvi]
          exact Out.of hi (ixv_sound hu hz ha hv h0.1 h0.2 hr)
        · cases h1
      · cases h1
    case string =>
      obtain ⟨x', hx, h⟩ := bind_some h
      obtain ⟨i', hi', h⟩ := bind_some h
      injection h with h; subst h
      have hv := hρ x x' hx
      have hvi := hρ i i' hi'
      obtain ⟨h1, rfl⟩ := hd.val' (fun ac h => by
        simp only [act] at h
        split at h
        · split at h
          · split at h
            · injection h with h; exact ⟨_, h.symm⟩
            · cases h
          · cases h
        · cases h)
      simp only [act] at h1
      split at h1
      · rename_i s k n' e0 e1
        rw [e0] at hv
        rw [e1] at hvi
        split at h1
        · rename_i h0
          split at h1
          · rename_i b hb
            injection h1 with h1
            injection h1 with h1
            subst h1
            rw [show ρ i = .int k n' from hvi]
            exact Out.of hi ⟨_, ixstr_sound hu hv h0 hb, rfl⟩
          · cases h1
        · cases h1
      · cases h1
  case lookup t x k ok =>
    obtain ⟨ds, hu, h⟩ := bind_some h
    cases ds <;> simp only [] at h <;> try (cases h; done)
    rename_i kt e
    obtain ⟨ks, hks, h⟩ := bind_some h
    obtain ⟨za, hza, h⟩ := bind_some h
    obtain ⟨x', hx, h⟩ := bind_some h
    obtain ⟨k', hk, h⟩ := bind_some h
    injection h with h; subst h
    exact op_lookup hρ hi hu hks hza hx hk hd
  case mapUpdate t m k x =>
    obtain ⟨ds, hu, h⟩ := bind_some h
    cases ds <;> simp only [] at h <;> try (cases h; done)
    rename_i kt e
    obtain ⟨ks, hks, h⟩ := bind_some h
    obtain ⟨m', hm, h⟩ := bind_some h
    obtain ⟨k', hk, h⟩ := bind_some h
    obtain ⟨x', hx, h⟩ := bind_some h
    injection h with h; subst h
    exact op_mapupd hρ hi hu hks hm hk hx hd
  case insert t m k x =>
    obtain ⟨ds, hu, h⟩ := bind_some h
    cases ds <;> simp only [] at h <;> try (cases h; done)
    rename_i kt e
    obtain ⟨ks, hks, h⟩ := bind_some h
    obtain ⟨m', hm, h⟩ := bind_some h
    obtain ⟨k', hk, h⟩ := bind_some h
    obtain ⟨x', hx, h⟩ := bind_some h
    injection h with h; subst h
    exact op_mapupd hρ hi hu hks hm hk hx hd
  case extract x i =>
    obtain ⟨x', hx, h⟩ := bind_some h
    injection h with h; subst h
    have hv := hρ x x' hx
    obtain ⟨h1, rfl⟩ := hd.val' (fun ac h => by
      simp only [act] at h
      split at h
      · obtain ⟨a, _, rfl⟩ := Option.map_eq_some_iff.1 h
        exact ⟨_, rfl⟩
      · cases h)
    simp only [act] at h1
    split at h1
    · rename_i vs e0
      rw [e0] at hv
      obtain ⟨r, hr, h1⟩ := Option.map_eq_some_iff.1 h1
      injection h1 with h1
      subst h1
      exact Out.of hi (extract_sound hv hr)
    · cases h1
  case range t x =>
    obtain ⟨ds, hu, h⟩ := bind_some h
    cases ds <;> simp only [] at h <;> try (cases h; done)
    rename_i kt e
    obtain ⟨x', hx, h⟩ := bind_some h
    injection h with h; subst h
    have hv := hρ x x' hx
    obtain ⟨ac, h1, _, _, h2⟩ := hd
    simp only [act] at h1
    split at h1
    · rename_i m e0
      rw [e0] at hv
      injection h1 with h1
      subst h1
      simp only [doAct] at h2
      split at h2
      · rename_i ks es hH
        injection h2 with h2
        injection h2 with h2 h3
        subst h2; subst h3
        exact newiter_sound hi hu hv hH
      · cases h2
    · cases h1
  case next x s =>
    split at h
    · cases h
    · rename_i hs
      have hs' : s = false := by simpa using hs
      subst hs'
      obtain ⟨x', hx, rfl⟩ := Option.map_eq_some_iff.1 h
      have hv := hρ x x' hx
      obtain ⟨ac, h1, _, _, h2⟩ := hd
      simp only [act] at h1
      split at h1
      · rename_i i e0
        rw [e0] at hv
        injection h1 with h1
        subst h1
        simp only [doAct] at h2
        split at h2
        · rename_i m since pos last hH
          split at h2
          · rename_i ks es hes
            split at h2
            · rename_i hn
              injection h2 with h2
              injection h2 with h2 h3
              subst h2; subst h3
              exact Out.of hi ⟨_, next_over hi hH hv hes hn, _, rfl, _, _, rfl, rfl, rfl⟩
            · split at h2
              · rename_i hc
                split at h2
                · rename_i k v' hkv
                  injection h2 with h2
                  injection h2 with h2 h3
                  subst h2; subst h3
                  obtain ⟨u, w', q1, q2, q3, q4⟩ := next_one (wp := cx.wp) (P := P) hi hH hv hes hc.1 hc.2.1 hc.2.2 hkv (t := o.type)
                  exact ⟨u, κ, w', .inl (by simp [q1]), q2, q3, q4⟩
                · cases h2
              · cases h2
          · cases h2
        · cases h2
      · cases h1
  case entry x =>
    obtain ⟨x', hx, rfl⟩ := Option.map_eq_some_iff.1 h
    have hv := hρ x x' hx
    obtain ⟨ac, h1, _, _, h2⟩ := hd
    simp only [act] at h1
    split at h1
    · rename_i i e0
      rw [e0] at hv
      injection h1 with h1
      subst h1
      simp only [doAct] at h2
      split at h2
      · rename_i m since pos last hH
        split at h2
        · rename_i ks es hes
          split at h2
          · rename_i hn
            split at h2
            · rename_i k v' hkv
              injection h2 with h2
              injection h2 with h2 h3
              subst h2; subst h3
              subst hn
              exact Out.of hi (entry_sound hi hH hv hes hkv)
            · cases h2
          · cases h2
        · cases h2
      · cases h2
    · cases h1
  case call c => exact op_call hρ hi h hd

end
end Go.AM
end
