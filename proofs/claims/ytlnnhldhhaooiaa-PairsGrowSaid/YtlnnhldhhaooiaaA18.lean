import Derived.Test.YtlnnhldhhaooiaaA17

set_option linter.unusedVariables false
set_option linter.unusedSimpArgs false
set_option linter.unusedSectionVars false
set_option linter.unnecessarySimpa false

section
/- One operation. -/
namespace Go.AM
open Go

variable {Γ : Env} {wp : Nat} {κ κ' : K} {H H' : Heap} {w w' : World} {P : Program}

theorem Out.of (hi : HInv Γ κ H w) {v : AV} {s : Sem Value} (h : ∃ u, s.run P w = .ok u w ∧ V κ w v u) : Out Γ wp κ H w H v ((do pure (.value (← s)) : Sem Next).run P w) := by
  obtain ⟨u, h1, h2⟩ := h
  exact Out.val hi (by simp [h1]) h2

theorem Out.unit {s : Sem Unit} (h : ∃ w', s.run P w = .ok () w' ∧ Le κ w κ w' ∧ Fr wp κ H w κ H' w' ∧ HInv Γ κ H' w') : Out Γ wp κ H w H' (.tup []) ((do s; pure .skip : Sem Next).run P w) := by
  obtain ⟨w', h1, h2, h3, h4⟩ := h
  exact ⟨undef, κ, w', .inr ⟨by simp [h1], rfl⟩, h2, ⟨h3, h4⟩, #[], rfl, rfl⟩

section
variable {T : Tab} {rec : Ctx → AC → St → Option (Ex × St)} {cx : Ctx} {fr : List AV} {b0 : Nat} {v : AV} {ac : Act} {ρ : Operand → Value}

/-- What an operation of the abstract machine does. -/
def Does (T : Tab) (rec : Ctx → AC → St → Option (Ex × St)) (cx : Ctx) (fr : List AV) (b0 : Nat) (H : Heap) (ao : AOp) (v : AV) (H' : Heap) : Prop :=
  ∃ ac, act fr b0 ao = some ac ∧ (∀ f l, ac ≠ .call f l) ∧ (∀ l as, ac ≠ .round l as) ∧ doAct T rec cx H ac = some (v, H')

theorem opt_pair {α : Type} {x : Option α} {b : α} {p q : Heap} {c : α} (h : (x.map fun r => (r, p)) = some (c, q)) : x = some c ∧ q = p := by
  cases x with
  | none => cases h
  | some a => simp at h; exact ⟨by rw [h.1], h.2.symm⟩

variable (hρ : ∀ (x : Operand) (y : Opd), trO x = some y → V κ w (opd fr y) (ρ x))
include hρ

theorem op_load (hi : HInv Γ κ H w) {t : TypeId} {ag : Bool} {n : Nat} (ha : isAg P t = some ag) (hn : size P t = some n) {x : Operand} {y : Opd} (hx : trO x = some y) (hd : Does T rec cx fr b0 H (.load ag n y) v H') :
    Out Γ wp κ H w H' v ((do pure (.value (← Instr.loadAt t (ρ x))) : Sem Next).run P w) := by
  obtain ⟨ac, h1, _, _, h2⟩ := hd
  have hv := hρ x y hx
  simp only [act] at h1
  split at h1
  · rename_i i ver e f he
    rw [he] at hv
    injection h1 with h1
    subst h1
    simp only [doAct] at h2
    obtain ⟨es, e1, h2⟩ := bind_some h2
    obtain ⟨cs, e2, h2⟩ := bind_some h2
    obtain ⟨r, e3, h2⟩ := bind_some h2
    injection h2 with h2
    injection h2 with h2 h3
    subst h2; subst h3
    exact Out.of hi (load_sound hi ha hn hv e1 e2 e3)
  · rename_i cs he
    rw [he] at hv
    cases hp : partOf ag 0 n cs with
    | none => rw [hp] at h1; cases h1
    | some r =>
      rw [hp] at h1
      injection h1 with h1
      subst h1
      injection h2 with h2
      injection h2 with h2 h3
      subst h2; subst h3
      exact Out.of hi (fload_sound ha hn hv hp)
  · cases h1

theorem op_store (hi : HInv Γ κ H w) {t : TypeId} {n : Nat} (hn : size P t = some n) {x x' : Operand} {y y' : Opd} (hx : trO x = some y) (hx' : trO x' = some y') (hd : Does T rec cx fr b0 H (.store n y y') v H') :
    Out Γ cx.wp κ H w H' v ((do Instr.storeAt t (ρ x) (ρ x'); pure .skip : Sem Next).run P w) := by
  obtain ⟨ac, h1, _, _, h2⟩ := hd
  have hv := hρ x y hx
  have hv' := hρ x' y' hx'
  simp only [act] at h1
  split at h1
  · rename_i i ver e f cs he hc
    rw [he] at hv
    split at h1
    · rename_i hl
      injection h1 with h1
      subst h1
      simp only [doAct] at h2
      split at h2
      · rename_i hwp
        obtain ⟨es, e1, h2⟩ := bind_some h2
        obtain ⟨old, e2, h2⟩ := bind_some h2
        split at h2
        · rename_i hf
          injection h2 with h2
          injection h2 with h2 h3
          subst h2; subst h3
          exact Out.unit (store_sound hi hn hv hv' hc hl.1 e1 e2 hf (of_decide_eq_true (by simpa using hwp)))
        · cases h2
      · cases h2
    · cases h1
  · cases h1

theorem op_alloc (hi : HInv Γ κ H w) {e : TypeId} {z : List AV} (hz : zero P e = some z) (hd : Does T rec cx fr b0 H (.alloc z) v H') :
    Out Γ wp κ H w H' v ((do pure (.value (← Instr.alloc e true (.tuple #[]))) : Sem Next).run P w) := by
  obtain ⟨ac, h1, _, _, h2⟩ := hd
  simp only [act, Option.some.injEq] at h1
  subst h1
  simp only [doAct, Option.some.injEq, Prod.mk.injEq] at h2
  obtain ⟨rfl, rfl⟩ := h2
  exact alloc_sound hi hz

theorem op_box (hi : HInv Γ κ H w) {e : TypeId} {x : Operand} {y : Opd} (hx : trO x = some y) (hd : Does T rec cx fr b0 H (.box y) v H') :
    Out Γ wp κ H w H' v ((do pure (.value (← Instr.box e (ρ x))) : Sem Next).run P w) := by
  obtain ⟨ac, h1, _, _, h2⟩ := hd
  simp only [act, Option.map_eq_some_iff] at h1
  obtain ⟨cs, hc, rfl⟩ := h1
  simp only [doAct, Option.some.injEq, Prod.mk.injEq] at h2
  obtain ⟨rfl, rfl⟩ := h2
  exact box_sound hi (hρ x y hx) hc

theorem op_build (hi : HInv Γ κ H w) {t : TypeId} {ps : Array (Nat × Operand)} {z : List AV} {qs : List (Nat × Nat × Opd)} (hz : zero P t = some z)
    (hp : (∃ fs, P.underlying t = some (.struct fs) ∧ fs.toList.all (fun f => (size P f.type).isSome) = true ∧ parts P fs ps.toList = some qs) ∨ (∃ n e m, P.underlying t = some (.array n e) ∧ size P e = some m ∧ partsA m ps.toList = some qs))
    (hd : Does T rec cx fr b0 H (.build z qs) v H') : Out Γ wp κ H w H' v ((do pure (.value (← Instr.build t (ps.map fun (i, x) => (i, ρ x)))) : Sem Next).run P w) := by
  obtain ⟨ac, h1, _, _, h2⟩ := hd
  simp only [act, Option.map_eq_some_iff] at h1
  obtain ⟨cs, hc, rfl⟩ := h1
  simp only [doAct, Option.some.injEq, Prod.mk.injEq] at h2
  obtain ⟨rfl, rfl⟩ := h2
  exact Out.of hi (build_sound hz hp hρ hc)

theorem op_lit (hi : HInv Γ κ H w) {t e : TypeId} {n : Nat} {ps : Array (Nat × Operand)} {z : List AV} {qs : List (Nat × Opd)} (ht : P.underlying t = some (.slice e)) (hz : zero P e = some z)
    (hlim : n * z.length ≤ 16777216) (hz0 : z.length ≠ 0) (hq : partsS ps.toList = some qs) (hd : Does T rec cx fr b0 H (.lit n z qs) v H') :
    Out Γ wp κ H w H' v ((do pure (.value (← Instr.buildSlice t n (ps.map fun (i, x) => (i, ρ x)))) : Sem Next).run P w) := by
  obtain ⟨ac, h1, _, _, h2⟩ := hd
  simp only [act, Option.map_eq_some_iff] at h1
  obtain ⟨es, hc, rfl⟩ := h1
  simp only [doAct, Option.some.injEq, Prod.mk.injEq] at h2
  obtain ⟨rfl, rfl⟩ := h2
  exact lit_sound hi ht hz hlim hz0 hq hρ hc

theorem op_mkslice (hi : HInv Γ κ H w) {t e : TypeId} {z : List AV} {by' : Nat} (ht : P.underlying t = some (.slice e)) (hz : zero P e = some z) (hb : bytes P e = some by') {l c : Operand} {l' c' : Opd} (hl : trO l = some l') (hc : trO c = some c')
    (hd : Does T rec cx fr b0 H (.mkslice z by' l' c') v H') : Out Γ wp κ H w H' v ((do pure (.value (← Instr.makeSlice t (ρ l) (ρ c))) : Sem Next).run P w) := by
  obtain ⟨ac, h1, _, _, h2⟩ := hd
  have hvl := hρ l l' hl
  have hvc := hρ c c' hc
  simp only [act] at h1
  split at h1
  · rename_i kl ln kc cn el ec
    rw [el] at hvl
    rw [ec] at hvc
    split at h1
    · rename_i hcond
      injection h1 with h1
      subst h1
      simp only [doAct, Option.some.injEq, Prod.mk.injEq, List.length_replicate] at h2
      obtain ⟨rfl, rfl⟩ := h2
      rw [show ρ l = .int kl ln from hvl, show ρ c = .int kc cn from hvc]
      exact mkslice_sound hi ht hz hb hcond.1 hcond.2.1 hcond.2.2.1 hcond.2.2.2
    · cases h1
  · cases h1

theorem op_mkmap (hi : HInv Γ κ H w) {t : TypeId} {ks : List Nat} (hd : Does T rec cx fr b0 H (.mkmap ks) v H') :
    Out Γ wp κ H w H' v ((do pure (.value (← Instr.makeMap t none)) : Sem Next).run P w) := by
  obtain ⟨ac, h1, _, _, h2⟩ := hd
  simp only [act, Option.some.injEq] at h1
  subst h1
  simp only [doAct, Option.some.injEq, Prod.mk.injEq] at h2
  obtain ⟨rfl, rfl⟩ := h2
  exact newmap_sound hi

theorem op_lookup (hi : HInv Γ κ H w) {t kt e : TypeId} (ht : P.underlying t = some (.map kt e)) {ks : List Nat} (hks : keyKs P kt = some ks) {za : AV} (hz : zeroAV P e = some za) {ok : Bool} {m k : Operand} {m' k' : Opd} (hm : trO m = some m') (hk : trO k = some k')
    (hd : Does T rec cx fr b0 H (.lookup ks za ok m' k') v H') : Out Γ wp κ H w H' v ((do pure (.value (← Instr.lookup t (ρ m) (ρ k) ok)) : Sem Next).run P w) := by
  obtain ⟨ac, h1, _, _, h2⟩ := hd
  have hvm := hρ m m' hm
  have hvk := hρ k k' hk
  simp only [act] at h1
  split at h1
  · rename_i hkk
    split at h1
    · rename_i em
      injection h1 with h1
      subst h1
      simp only [doAct, Option.some.injEq, Prod.mk.injEq] at h2
      obtain ⟨rfl, rfl⟩ := h2
      obtain ⟨u, u1, u2⟩ := lookup_sound (P := P) (ok := ok) hi ht hks hz hvm hvk hkk (es := []) (.inl ⟨em, rfl⟩) (r := none) rfl
      exact Out.of hi ⟨u, u1, u2⟩
    · rename_i i em
      injection h1 with h1
      subst h1
      simp only [doAct] at h2
      split at h2
      · rename_i ks' es hH
        split at h2
        · rename_i hks'
          subst hks'
          obtain ⟨r, hf, h2⟩ := bind_some h2
          injection h2 with h2
          injection h2 with h2 h3
          subst h2; subst h3
          exact Out.of hi (lookup_sound (P := P) (ok := ok) hi ht hks hz hvm hvk hkk (.inr ⟨i, em, hH⟩) hf)
        · cases h2
      · cases h2
    · cases h1
  · cases h1

theorem op_mapupd (hi : HInv Γ κ H w) {t kt e : TypeId} (ht : P.underlying t = some (.map kt e)) {ks : List Nat} (hks : keyKs P kt = some ks) {m k x : Operand} {m' k' x' : Opd} (hm : trO m = some m') (hk : trO k = some k') (hx : trO x = some x')
    (hd : Does T rec cx fr b0 H (.mapupd ks m' k' x') v H') : Out Γ cx.wp κ H w H' v ((do Instr.mapUpdate t (ρ m) (ρ k) (ρ x); pure .skip : Sem Next).run P w) := by
  obtain ⟨ac, h1, _, _, h2⟩ := hd
  have hvm := hρ m m' hm
  have hvk := hρ k k' hk
  have hvx := hρ x x' hx
  simp only [act] at h1
  split at h1
  · rename_i i em
    rw [em] at hvm
    split at h1
    · rename_i hkk
      injection h1 with h1
      subst h1
      simp only [doAct] at h2
      split at h2
      · rename_i ks' es hH
        split at h2
        · rename_i hc
          obtain ⟨hc1, hc2, hc3⟩ := hc
          subst hc1
          obtain ⟨es', hu, h2⟩ := Option.map_eq_some_iff.1 h2
          injection h2 with h2 h3
          subst h2; subst h3
          exact Out.unit (mapupd_sound hi ht hks hvm hvk hkk hvx hc3 hH hu (of_decide_eq_true (by simpa using hc2)))
        · cases h2
      · cases h2
    · cases h1
  · cases h1

theorem op_append (hi : HInv Γ κ H w) {t tx ty e : TypeId} {zl : List AV} {z bts : Nat} (ht : P.underlying t = some (.slice e)) (hz : zero P e = some zl) (hzl : zl.length = z) (hb : bytes P e = some bts) (hk : (∃ e', P.underlying tx = some (.slice e')) ∨ P.underlying tx = some .string)
    {s x : Operand} {s' x' : Opd} (hs : trO s = some s') (hx : trO x = some x') (hd : Does T rec cx fr b0 H (.append z bts s' x') v H') :
    Out Γ cx.wp κ H w H' v ((do pure (.value (← Builtin.append_ #[t, tx] ty #[ρ s, ρ x])) : Sem Next).run P w) := by
  obtain ⟨ac, h1, _, _, h2⟩ := hd
  have hvs := hρ s s' hs
  have hvx := hρ x x' hx
  subst hzl
  have fin : ∀ es src s0, opd fr s' = s0 → (s0 = .nils ∧ es = [] ∨ s0 = .fs es true ∧ es.all (fun e => e.length == zl.length) = true) → srcOf zl.length (opd fr x') = some src →
      doAct T rec cx H (.appnew zl.length bts s0 es src) = some (v, H') → Out Γ cx.wp κ H w H' v ((do pure (.value (← Builtin.append_ #[t, tx] ty #[ρ s, ρ x])) : Sem Next).run P w) := by
    intro es src s0 h0 h01 hsrc h2
    rw [h0] at hvs
    simp only [doAct] at h2
    obtain ⟨new, hn, h2⟩ := bind_some h2
    split at h2
    · rename_i hc
      obtain ⟨a1, a2⟩ := appnew_sound (wp := cx.wp) (P := P) (ty := ty) hi ht hz hb hvs h01 hvx hsrc hk hn hc.1 hc.2
      split at h2
      · rename_i hl
        injection h2 with h2
        injection h2 with h2 h3
        subst h2; subst h3
        exact a1 hl
      · rename_i hl
        injection h2 with h2
        injection h2 with h2 h3
        subst h2; subst h3
        exact a2 hl
    · cases h2
  simp only [act] at h1
  split at h1
  · rename_i src es0 hsrc
    injection h1 with h1
    subst h1
    exact fin [] src _ es0 (.inl ⟨rfl, rfl⟩) hsrc h2
  · rename_i es src es0 hsrc
    split at h1
    · rename_i hall
      injection h1 with h1
      subst h1
      exact fin es src _ es0 (.inr ⟨rfl, hall⟩) hsrc h2
    · cases h1
  · rename_i i ver o n c zr src es0 hsrc
    rw [es0] at hvs
    split at h1
    · rename_i hzr
      subst hzr
      injection h1 with h1
      subst h1
      simp only [doAct] at h2
      obtain ⟨all, ha, h2⟩ := bind_some h2
      obtain ⟨new, hn, h2⟩ := bind_some h2
      split at h2
      · rename_i hc
        obtain ⟨a1, a2⟩ := app_sound (P := P) (ty := ty) hi ht hz hb (sv := .any) hvs hvx hsrc hk ha hn hc.1 (of_decide_eq_true (by simpa using hc.2))
        split at h2
        · rename_i hroom
          split at h2
          · rename_i hoc
            injection h2 with h2
            injection h2 with h2 h3
            subst h2; subst h3
            exact a1 hroom hoc
          · cases h2
        · rename_i hroom
          split at h2
          · rename_i hmx
            injection h2 with h2
            injection h2 with h2 h3
            subst h2; subst h3
            exact a2 (by omega) hmx.1 hmx.2
          · cases h2
      · cases h2
    · cases h1
  · cases h1

theorem op_appz (hi : HInv Γ κ H w) {t tn ty e : TypeId} {zl : List AV} {bts : Nat} (ht : P.underlying t = some (.slice e)) {kn : IntKind} (htn : P.underlying tn = some (.int kn)) (hz : zero P e = some zl) (hb : bytes P e = some bts) (hz0 : zl.length ≠ 0)
    {s x : Operand} {s' x' : Opd} (hs : trO s = some s') (hx : trO x = some x') (hd : Does T rec cx fr b0 H (.appz zl bts s' x') v H') :
    Out Γ wp κ H w H' v ((do pure (.value (← Builtin.append_ #[t, tn] ty #[ρ s, ρ x])) : Sem Next).run P w) := by
  obtain ⟨ac, h1, _, _, h2⟩ := hd
  have hvs := hρ s s' hs
  have hvx := hρ x x' hx
  simp only [act] at h1
  split at h1
  · rename_i k n e0 e1
    rw [e0] at hvs
    rw [e1] at hvx
    split at h1
    · rename_i hc
      injection h1 with h1
      subst h1
      have hmx' : maxLn = 140737488355328 := rfl
      simp only [doAct, rdSrc] at h2
      obtain ⟨new, hn, h2⟩ := bind_some h2
      injection hn with hn
      subst hn
      simp only [List.length_nil, Nat.zero_add, List.length_replicate, List.nil_append] at h2
      split at h2
      · rename_i hcc
        rw [if_neg (by omega)] at h2
        injection h2 with h2
        injection h2 with h2 h3
        subst h2; subst h3
        rw [show ρ s = .slice none 0 0 from hvs, show ρ x = .int k n from hvx]
        exact appz_sound hi ht htn hz hb hz0 hc.1 hc.2 (by omega)
      · cases h2
    · cases h1
  · cases h1

theorem op_copy (hi : HInv Γ κ H w) {t tx ty e : TypeId} {z : Nat} (ht : P.underlying t = some (.slice e)) (hz : size P e = some z) {s x : Operand} {s' x' : Opd} (hs : trO s = some s') (hx : trO x = some x') (hd : Does T rec cx fr b0 H (.copy z s' x') v H') :
    Out Γ cx.wp κ H w H' v ((do pure (.value (← Builtin.copy_ #[t, tx] ty #[ρ s, ρ x])) : Sem Next).run P w) := by
  obtain ⟨ac, h1, _, _, h2⟩ := hd
  have hvs := hρ s s' hs
  have hvx := hρ x x' hx
  simp only [act] at h1
  split at h1
  · rename_i i ver o n c zr src es0 hsrc
    rw [es0] at hvs
    split at h1
    · rename_i hzr
      subst hzr
      injection h1 with h1
      subst h1
      simp only [doAct] at h2
      obtain ⟨all, ha, h2⟩ := bind_some h2
      obtain ⟨new, hn, h2⟩ := bind_some h2
      split at h2
      · rename_i hc
        injection h2 with h2
        injection h2 with h2 h3
        subst h2; subst h3
        exact copy_sound (P := P) (ty := ty) hi ht hz hvs hvx hsrc ha hn hc.2 (of_decide_eq_true (by simpa using hc.1))
      · cases h2
    · cases h1
  · cases h1

theorem op_clear (hi : HInv Γ κ H w) {t ty e : TypeId} {zl : List AV} (ht : P.underlying t = some (.slice e)) (hz : zero P e = some zl) {x : Operand} {x' : Opd} (hx : trO x = some x') (hd : Does T rec cx fr b0 H (.clear zl x') v H') :
    Out Γ cx.wp κ H w H' v ((do pure (.value (← Builtin.clear_ #[t] ty #[ρ x])) : Sem Next).run P w) := by
  obtain ⟨ac, h1, _, _, h2⟩ := hd
  have hvx := hρ x x' hx
  simp only [act] at h1
  split at h1
  · rename_i e0
    rw [e0] at hvx
    injection h1 with h1
    subst h1
    simp only [doAct, Option.some.injEq, Prod.mk.injEq] at h2
    obtain ⟨rfl, rfl⟩ := h2
    rw [show ρ x = .slice none 0 0 from hvx]
    exact Out.of hi ⟨_, clear_none ht _ _, #[], rfl, rfl⟩
  · rename_i b e0
    rw [e0] at hvx
    injection h1 with h1
    subst h1
    simp only [doAct, Option.some.injEq, Prod.mk.injEq] at h2
    obtain ⟨rfl, rfl⟩ := h2
    obtain ⟨a, z, cap, h3, _⟩ := hvx
    rw [h3]
    exact Out.of hi ⟨_, clear_none ht _ _, #[], rfl, rfl⟩
  · rename_i i ver o n c zr e0
    rw [e0] at hvx
    split at h1
    · rename_i hzr
      subst hzr
      injection h1 with h1
      subst h1
      simp only [doAct] at h2
      obtain ⟨all, ha, h2⟩ := bind_some h2
      split at h2
      · rename_i hc
        injection h2 with h2
        injection h2 with h2 h3
        subst h2; subst h3
        exact clear_sound (P := P) (ty := ty) hi ht hz hvx ha hc.2 (of_decide_eq_true (by simpa using hc.1))
      · cases h2
    · cases h1
  · cases h1

end
end Go.AM
end
