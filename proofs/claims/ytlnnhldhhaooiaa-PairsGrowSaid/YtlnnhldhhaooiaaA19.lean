import Derived.Test.YtlnnhldhhaooiaaA37

set_option linter.unusedVariables false
set_option linter.unusedSimpArgs false
set_option linter.unusedSectionVars false
set_option linter.unnecessarySimpa false

section
/- One operation: the rest. -/
namespace Go.AM
open Go

variable {Γ : Env} {wp : Nat} {κ κ' : K} {H H' : Heap} {w w' : World} {P : Program}

theorem isNilK_isNil {k : Nat} {a : AV} {t : Bool} (h : isNilK k a = some t) : isNil a = some t := by
  unfold isNilK at h
  split at h <;> first
    | (injection h with h; subst h; rfl)
    | (cases h)

theorem nilT_cases {ds : TypeDesc} {k : Nat} (h : nilT ds = some k) : (k = 0 ∧ ∃ e, ds = .slice e) ∨ (k = 1 ∧ ∃ a b, ds = .map a b) ∨ (k = 2 ∧ ∃ a b c, ds = .func a b c) ∨ (k = 3 ∧ ∃ e, ds = .pointer e) ∨ (k = 4 ∧ ∃ m, ds = .interface m) := by
  cases ds <;> simp [nilT] at h <;> subst h <;> simp

theorem nilO_cases {x : Operand} {k : Nat} (h : nilO x = some k) : ∃ c, x = .const c ∧ ((k = 0 ∧ c = .slice none 0 0) ∨ (k = 1 ∧ c = .map none) ∨ (k = 2 ∧ c = .nilFunc) ∨ (k = 3 ∧ c = .pointer none) ∨ (k = 4 ∧ c = .nilIface)) := by
  unfold nilO at h
  split at h <;> first
    | (injection h with h; subst h; exact ⟨_, rfl, by simp⟩)
    | (cases h)

section
variable (d : Nat)
theorem eqs1' (t : TypeId) {e} (a : Option Addr) (l c : Nat) (h : P.underlying t = some (.slice e)) : (Op.equalIn (d + 1) t (.slice a l c) (.slice none 0 0)).run P w = .ok a.isNone w := by
  cases a <;> simp [Op.equalIn, run_underlying h]
theorem eqs2' (t : TypeId) {e} (a : Option Addr) (l c : Nat) (h : P.underlying t = some (.slice e)) : (Op.equalIn (d + 1) t (.slice none 0 0) (.slice a l c)).run P w = .ok a.isNone w := by
  simp [Op.equalIn, run_underlying h]
theorem eqm1' (t : TypeId) {e f} (a : Option Nat) (h : P.underlying t = some (.map e f)) : (Op.equalIn (d + 1) t (.map a) (.map none)).run P w = .ok a.isNone w := by
  cases a <;> simp [Op.equalIn, run_underlying h]
theorem eqm2' (t : TypeId) {e f} (a : Option Nat) (h : P.underlying t = some (.map e f)) : (Op.equalIn (d + 1) t (.map none) (.map a)).run P w = .ok a.isNone w := by
  simp [Op.equalIn, run_underlying h]
theorem eqf0' (t : TypeId) {e f g} (h : P.underlying t = some (.func e f g)) : (Op.equalIn (d + 1) t .nilFunc .nilFunc).run P w = .ok true w := by
  simp [Op.equalIn, run_underlying h]
theorem eqf1' (t : TypeId) (a : Fn) (b c : Array Value) {e f g} (h : P.underlying t = some (.func e f g)) : (Op.equalIn (d + 1) t (.func a b c) .nilFunc).run P w = .ok false w := by
  simp [Op.equalIn, run_underlying h]
theorem eqf2' (t : TypeId) (a : Fn) (b c : Array Value) {e f g} (h : P.underlying t = some (.func e f g)) : (Op.equalIn (d + 1) t .nilFunc (.func a b c)).run P w = .ok false w := by
  simp [Op.equalIn, run_underlying h]
theorem eqp1' (t : TypeId) {e} (a : Option Addr) (h : P.underlying t = some (.pointer e)) : (Op.equalIn (d + 1) t (.pointer a) (.pointer none)).run P w = .ok a.isNone w := by
  cases a <;> simp [Op.equalIn, run_underlying h]
theorem eqp2' (t : TypeId) {e} (a : Option Addr) (h : P.underlying t = some (.pointer e)) : (Op.equalIn (d + 1) t (.pointer none) (.pointer a)).run P w = .ok a.isNone w := by
  simp [Op.equalIn, run_underlying h]
theorem eqi0' (t : TypeId) {m} (h : P.underlying t = some (.interface m)) : (Op.equalIn (d + 1) t .nilIface .nilIface).run P w = .ok true w := by
  simp [Op.equalIn, run_underlying h]
theorem eqi1' (t : TypeId) (u : TypeId) (x : Value) {m} (h : P.underlying t = some (.interface m)) : (Op.equalIn (d + 1) t (.iface u x) .nilIface).run P w = .ok false w := by
  simp [Op.equalIn, run_underlying h]
theorem eqi2' (t : TypeId) (u : TypeId) (x : Value) {m} (h : P.underlying t = some (.interface m)) : (Op.equalIn (d + 1) t .nilIface (.iface u x)).run P w = .ok false w := by
  simp [Op.equalIn, run_underlying h]
end
theorem eqs1 (t : TypeId) {e} (a : Option Addr) (l c : Nat) (h : P.underlying t = some (.slice e)) : (Op.equal t (.slice a l c) (.slice none 0 0)).run P w = .ok a.isNone w := eqs1' 9999 t a l c h
theorem eqs2 (t : TypeId) {e} (a : Option Addr) (l c : Nat) (h : P.underlying t = some (.slice e)) : (Op.equal t (.slice none 0 0) (.slice a l c)).run P w = .ok a.isNone w := eqs2' 9999 t a l c h
theorem eqm1 (t : TypeId) {e f} (a : Option Nat) (h : P.underlying t = some (.map e f)) : (Op.equal t (.map a) (.map none)).run P w = .ok a.isNone w := eqm1' 9999 t a h
theorem eqm2 (t : TypeId) {e f} (a : Option Nat) (h : P.underlying t = some (.map e f)) : (Op.equal t (.map none) (.map a)).run P w = .ok a.isNone w := eqm2' 9999 t a h
theorem eqf0 (t : TypeId) {e f g} (h : P.underlying t = some (.func e f g)) : (Op.equal t .nilFunc .nilFunc).run P w = .ok true w := eqf0' 9999 t h
theorem eqf1 (t : TypeId) (a : Fn) (b c : Array Value) {e f g} (h : P.underlying t = some (.func e f g)) : (Op.equal t (.func a b c) .nilFunc).run P w = .ok false w := eqf1' 9999 t a b c h
theorem eqf2 (t : TypeId) (a : Fn) (b c : Array Value) {e f g} (h : P.underlying t = some (.func e f g)) : (Op.equal t .nilFunc (.func a b c)).run P w = .ok false w := eqf2' 9999 t a b c h
theorem eqp1 (t : TypeId) {e} (a : Option Addr) (h : P.underlying t = some (.pointer e)) : (Op.equal t (.pointer a) (.pointer none)).run P w = .ok a.isNone w := eqp1' 9999 t a h
theorem eqp2 (t : TypeId) {e} (a : Option Addr) (h : P.underlying t = some (.pointer e)) : (Op.equal t (.pointer none) (.pointer a)).run P w = .ok a.isNone w := eqp2' 9999 t a h
theorem eqi0 (t : TypeId) {m} (h : P.underlying t = some (.interface m)) : (Op.equal t .nilIface .nilIface).run P w = .ok true w := eqi0' 9999 t h
theorem eqi1 (t : TypeId) (u : TypeId) (x : Value) {m} (h : P.underlying t = some (.interface m)) : (Op.equal t (.iface u x) .nilIface).run P w = .ok false w := eqi1' 9999 t u x h
theorem eqi2 (t : TypeId) (u : TypeId) (x : Value) {m} (h : P.underlying t = some (.interface m)) : (Op.equal t .nilIface (.iface u x)).run P w = .ok false w := eqi2' 9999 t u x h

/-- A comparison with nil. -/
theorem run_eq_nil {t : TypeId} {ds : TypeDesc} (hu : P.underlying t = some ds) {k : Nat} (hk : nilT ds = some k) {a : AV} {u c : Value} (hv : V κ w a u) {r : Bool} (hr : isNilK k a = some r)
    (hc : (k = 0 ∧ c = .slice none 0 0) ∨ (k = 1 ∧ c = .map none) ∨ (k = 2 ∧ c = .nilFunc) ∨ (k = 3 ∧ c = .pointer none) ∨ (k = 4 ∧ c = .nilIface)) :
    (Op.equal t u c).run P w = .ok r w ∧ (Op.equal t c u).run P w = .ok r w := by
  rcases nilT_cases hk with ⟨rfl, e, rfl⟩ | ⟨rfl, e, f, rfl⟩ | ⟨rfl, e, f, g, rfl⟩ | ⟨rfl, e, rfl⟩ | ⟨rfl, e, rfl⟩ <;> simp at hc <;> subst hc <;>
    cases a <;> simp only [isNilK, Option.some.injEq, reduceCtorEq] at hr <;> subst hr
  case inl.nils => cases hv; exact ⟨eqs1 _ _ _ _ hu, eqs2 _ _ _ _ hu⟩
  case inl.fs => obtain ⟨_, _, _, rfl, _⟩ := hv; exact ⟨eqs1 _ _ _ _ hu, eqs2 _ _ _ _ hu⟩
  case inl.row => obtain ⟨_, _, _, _, rfl, _⟩ := hv; exact ⟨eqs1 _ _ _ _ hu, eqs2 _ _ _ _ hu⟩
  case inr.inl.nilm => cases hv; exact ⟨eqm1 _ _ hu, eqm2 _ _ hu⟩
  case inr.inl.map => obtain ⟨_, _, _, _, rfl⟩ := hv; exact ⟨eqm1 _ _ hu, eqm2 _ _ hu⟩
  case inr.inr.inl.nilf => cases hv; exact ⟨eqf0 _ hu, eqf0 _ hu⟩
  case inr.inr.inl.fn => obtain ⟨_, rfl, _⟩ := hv; exact ⟨eqf1 _ _ _ _ hu, eqf2 _ _ _ _ hu⟩
  case inr.inr.inl.yld => obtain ⟨_, _, _, _, rfl⟩ := hv; exact ⟨eqf1 _ _ _ _ hu, eqf2 _ _ _ _ hu⟩
  case inr.inr.inr.inl.nilp => cases hv; exact ⟨eqp1 _ _ hu, eqp2 _ _ hu⟩
  case inr.inr.inr.inl.ref => obtain ⟨_, _, _, _, rfl⟩ := hv; exact ⟨eqp1 _ _ hu, eqp2 _ _ hu⟩
  case inr.inr.inr.inl.fptr => obtain ⟨_, _, rfl, _⟩ := hv; exact ⟨eqp1 _ _ hu, eqp2 _ _ hu⟩
  case inr.inr.inr.inr.nili => cases hv; exact ⟨eqi0 _ hu, eqi0 _ hu⟩
  case inr.inr.inr.inr.iface => obtain ⟨_, rfl, _⟩ := hv; exact ⟨eqi1 _ _ _ hu, eqi2 _ _ _ hu⟩

theorem run_binOp_eq {t : TypeId} {u c : Value} {r : Bool} (h : (Op.equal t u c).run P w = .ok r w)
    (hn : ∀ k n, u ≠ .int k n) (hf : ∀ k n, u ≠ .float k n) (hcx : ∀ k n m, u ≠ .complex k n m) (hs : ∀ s, u ≠ .string s) :
    (Go.binOp .eql t u c).run P w = .ok (.bool r) w ∧ (Go.binOp .neq t u c).run P w = .ok (.bool !r) w := by
  cases u <;> first
    | (exact absurd rfl (hn _ _))
    | (exact absurd rfl (hf _ _))
    | (exact absurd rfl (hcx _ _ _))
    | (exact absurd rfl (hs _))
    | (constructor <;> simp [Go.binOp, h])

section
variable {T : Tab} {rec : Ctx → AC → St → Option (Ex × St)} {cx : Ctx} {fr : List AV} {b0 : Nat} {v : AV} {ac : Act} {ρ : Operand → Value}

theorem Does.val {ao : AOp} (hd : Does T rec cx fr b0 H ao v H') {x : Option AV} (hx : act fr b0 ao = x.map .val) : x = some v ∧ H' = H := by
  obtain ⟨ac, h1, _, _, h2⟩ := hd
  rw [hx] at h1
  cases x with
  | none => cases h1
  | some a =>
    simp at h1
    subst h1
    simp only [doAct, Option.some.injEq, Prod.mk.injEq] at h2
    exact ⟨by rw [h2.1], h2.2.symm⟩

theorem Does.val' {ao : AOp} (hd : Does T rec cx fr b0 H ao v H') (hx : ∀ ac, act fr b0 ao = some ac → ∃ a, ac = .val a) : act fr b0 ao = some (.val v) ∧ H' = H := by
  obtain ⟨ac, h1, _, _, h2⟩ := hd
  obtain ⟨a, rfl⟩ := hx ac h1
  simp only [doAct, Option.some.injEq, Prod.mk.injEq] at h2
  exact ⟨by rw [h1, h2.1], h2.2.symm⟩

variable (hρ : ∀ (x : Operand) (y : Opd), trO x = some y → V κ w (opd fr y) (ρ x))
include hρ

theorem op_bin (hi : HInv Γ κ H w) {op : BinOp} {t : TypeId} {x y : Operand} {x' y' : Opd} (hx : trO x = some x') (hy : trO y = some y') (hd : Does T rec cx fr b0 H (.bin op x' y') v H') :
    Out Γ wp κ H w H' v (((do eqGuard op t x y (ρ x) (ρ y); Go.binOp op t (ρ x) (ρ y) : Sem Value) >>= fun u => pure (.value u) : Sem Next).run P w) := by
  have hvx := hρ x x' hx
  have hvy := hρ y y' hy
  obtain ⟨h1, rfl⟩ := hd.val' (fun ac h => by
    simp only [act] at h
    split at h
    · cases h
    · obtain ⟨a, _, rfl⟩ := Option.map_eq_some_iff.1 h
      exact ⟨a, rfl⟩)
  simp only [act] at h1
  split at h1
  · cases h1
  · rename_i hb
    obtain ⟨r, hr, h1⟩ := Option.map_eq_some_iff.1 h1
    injection h1 with h1
    subst h1
    exact Out.of hi (bin_sound hvx hvy hr (fun a b e _ => absurd e (hb a)))

theorem op_binb (hi : HInv Γ κ H w) {op : BinOp} {t : TypeId} (ht : P.underlying t = some .bool) {x y : Operand} {x' y' : Opd} (hx : trO x = some x') (hy : trO y = some y') (hd : Does T rec cx fr b0 H (.binb op x' y') v H') :
    Out Γ wp κ H w H' v (((do eqGuard op t x y (ρ x) (ρ y); Go.binOp op t (ρ x) (ρ y) : Sem Value) >>= fun u => pure (.value u) : Sem Next).run P w) := by
  have hvx := hρ x x' hx
  have hvy := hρ y y' hy
  obtain ⟨h1, rfl⟩ := hd.val' (fun ac h => by
    simp only [act] at h
    split at h
    · obtain ⟨a, _, rfl⟩ := Option.map_eq_some_iff.1 h
      exact ⟨a, rfl⟩
    · cases h)
  simp only [act] at h1
  split at h1
  · rename_i a b ea eb
    rw [ea] at hvx
    rw [eb] at hvy
    obtain ⟨r, hr, h1⟩ := Option.map_eq_some_iff.1 h1
    injection h1 with h1
    subst h1
    exact Out.of hi (bin_sound hvx hvy hr (fun _ _ _ _ => ht))
  · cases h1

theorem op_eqa (hi : HInv Γ κ H w) {t : TypeId} (hg : P.eqGuardType P.depth t = false) {ks : List Nat} (hks : kinds P 8 t = some ks) (hag : isAg P t = some true) {x y : Operand} {x' y' : Opd} (hx : trO x = some x') (hy : trO y = some y') {neg : Bool} (hd : Does T rec cx fr b0 H (.eqa neg ks x' y') v H') :
    Out Γ wp κ H w H' v (((do eqGuard (if neg then .neq else .eql) t x y (ρ x) (ρ y); Go.binOp (if neg then .neq else .eql) t (ρ x) (ρ y) : Sem Value) >>= fun u => pure (.value u) : Sem Next).run P w) := by
  have hvx := hρ x x' hx
  have hvy := hρ y y' hy
  obtain ⟨h1, rfl⟩ := hd.val' (fun ac h => by
    simp only [act] at h
    split at h
    · split at h
      · obtain ⟨a, _, rfl⟩ := Option.map_eq_some_iff.1 h
        exact ⟨_, rfl⟩
      · cases h
    · cases h)
  simp only [act] at h1
  split at h1
  · rename_i a b ea eb
    rw [ea] at hvx
    rw [eb] at hvy
    split at h1
    · rename_i hk
      obtain ⟨hka, hkb⟩ := hk
      obtain ⟨r, hr, h1⟩ := Option.map_eq_some_iff.1 h1
      injection h1 with h1
      subst h1
      obtain ⟨o1, vs, e1, l1⟩ := hvx
      obtain ⟨o2, us, e2, l2⟩ := hvy
      have hl : a.length = ks.length := by rw [← hka]; simp
      have hl' : b.length = ks.length := by rw [← hkb]; simp
      have hsz : size P t = some ks.length := (kinds_some hks).choose_spec.2.2
      obtain ⟨p, q, p1, p2, p3⟩ := eqAt_kinds (P := P) (κ := κ) (w := w) 8 t ks hks 9992 a b vs us 0 r o1 o2 l1 l2
        (by rw [List.drop_zero, ← hl, List.take_length]; exact hka) (by rw [List.drop_zero, ← hl', List.take_length]; exact hkb)
        (by rw [List.drop_zero, List.drop_zero, ← hl, List.take_length, hl, ← hl', List.take_length]; exact hr)
      have hvl : vs.size = ks.length := by have := l1.length; simp at this; omega
      have hul : us.size = ks.length := by have := l2.length; simp at this; omega
      have q1 : (part t vs 0).run P w = .ok (.agg vs) w := by simp [part, run_isAg hag, run_sizeOf hsz, ← hvl]
      have q2 : (part t us 0).run P w = .ok (.agg us) w := by simp [part, run_isAg hag, run_sizeOf hsz, ← hul]
      rw [q1] at p1
      rw [q2] at p2
      injection p1 with p1
      injection p2 with p2
      subst p1; subst p2
      have heq : (Op.equal t (.agg vs) (.agg us)).run P w = .ok r w := p3
      rw [e1, e2]
      refine Out.of hi ⟨.bool (r != neg), ?_, by simp [V]⟩
      have hgd : ∀ op, (eqGuard op t x y (.agg vs) (.agg us)).run P w = .ok () w := by
        intro op
        cases op <;> simp [eqGuard, hg]
      have := run_binOp_eq heq (by simp) (by simp) (by simp) (by simp)
      cases neg
      · simp [hgd, this.1]
      · simp [hgd, this.2]
    · cases h1
  · cases h1

theorem op_eqn (hi : HInv Γ κ H w) {t : TypeId} {ds : TypeDesc} (hu : P.underlying t = some ds) {k : Nat} (hk : nilT ds = some k) {x y : Operand} {z' : Opd} {neg : Bool}
    (hz : (nilO y = some k ∧ trO x = some z') ∨ (nilO x = some k ∧ trO y = some z')) (hd : Does T rec cx fr b0 H (.eqn k neg z') v H') :
    Out Γ wp κ H w H' v (((do eqGuard (if neg then .neq else .eql) t x y (ρ x) (ρ y); Go.binOp (if neg then .neq else .eql) t (ρ x) (ρ y) : Sem Value) >>= fun u => pure (.value u) : Sem Next).run P w) := by
  obtain ⟨h1, rfl⟩ := hd.val' (fun ac h => by
    simp only [act] at h
    obtain ⟨a, _, rfl⟩ := Option.map_eq_some_iff.1 h
    exact ⟨_, rfl⟩)
  simp only [act] at h1
  obtain ⟨r, hr, h1⟩ := Option.map_eq_some_iff.1 h1
  injection h1 with h1
  subst h1
  have fin : ∀ u c : Value, (Op.equal t u c).run P w = .ok r w → (∀ op, (eqGuard op t x y u c).run P w = .ok () w) → ((Go.binOp .eql t u c).run P w = .ok (.bool r) w ∧ (Go.binOp .neq t u c).run P w = .ok (.bool !r) w) →
      ∃ z, (do eqGuard (if neg then .neq else .eql) t x y u c; Go.binOp (if neg then .neq else .eql) t u c : Sem Value).run P w = .ok z w ∧ V κ w (.bool (r != neg)) z := by
    intro u c h1 h2 h3
    refine ⟨.bool (r != neg), ?_, by simp [V]⟩
    cases neg
    · simp [h2, h3.1]
    · simp [h2, h3.2]
  have nil_not : ∀ c : Value, ((k = 0 ∧ c = .slice none 0 0) ∨ (k = 1 ∧ c = .map none) ∨ (k = 2 ∧ c = .nilFunc) ∨ (k = 3 ∧ c = .pointer none) ∨ (k = 4 ∧ c = .nilIface)) → (∀ k n, c ≠ .int k n) ∧ (∀ k n, c ≠ .float k n) ∧ (∀ k n m, c ≠ .complex k n m) ∧ (∀ s, c ≠ .string s) ∧ ∀ vs, c ≠ .agg vs := by
    rintro c (⟨_, rfl⟩ | ⟨_, rfl⟩ | ⟨_, rfl⟩ | ⟨_, rfl⟩ | ⟨_, rfl⟩) <;> simp
  have val_not : ∀ u : Value, V κ w (opd fr z') u → (∀ k n, u ≠ .int k n) ∧ (∀ k n, u ≠ .float k n) ∧ (∀ k n m, u ≠ .complex k n m) ∧ (∀ s, u ≠ .string s) := by
    intro u hu
    rcases isNil_sound hu (isNilK_isNil hr) with ⟨_, h⟩ | ⟨_, h⟩
    · rcases h with rfl | rfl | rfl | rfl | rfl <;> simp
    · rcases h with ⟨_, rfl⟩ | ⟨_, _, _, rfl⟩ | ⟨_, rfl⟩ | ⟨_, _, _, rfl, _⟩ | ⟨_, _, rfl⟩ <;> simp
  have guard : ∀ (c a b : Value), ((x = .const c) ∨ (y = .const c)) → a.oneCell' = true → ∀ op, (eqGuard op t x y a b).run P w = .ok () w := by
    intro c a b hc ha op
    by_cases hn : a = .nilIface ∧ b = .nilIface
    · obtain ⟨rfl, rfl⟩ := hn
      rcases hc with rfl | rfl <;> cases op <;> simp [eqGuard]
    · exact run_eqGuard_one hn ha w
  have one : ∀ u : Value, V κ w (opd fr z') u → u.oneCell' = true := by
    intro u hu
    rcases isNil_sound hu (isNilK_isNil hr) with ⟨_, h⟩ | ⟨_, h⟩
    · rcases h with rfl | rfl | rfl | rfl | rfl <;> rfl
    · rcases h with ⟨_, rfl⟩ | ⟨_, _, _, rfl⟩ | ⟨_, rfl⟩ | ⟨_, _, _, rfl, _⟩ | ⟨_, _, rfl⟩ <;> rfl
  have cone : ∀ c : Value, ((k = 0 ∧ c = .slice none 0 0) ∨ (k = 1 ∧ c = .map none) ∨ (k = 2 ∧ c = .nilFunc) ∨ (k = 3 ∧ c = .pointer none) ∨ (k = 4 ∧ c = .nilIface)) → c.oneCell' = true := by
    rintro c (⟨_, rfl⟩ | ⟨_, rfl⟩ | ⟨_, rfl⟩ | ⟨_, rfl⟩ | ⟨_, rfl⟩) <;> rfl
  have cρ : ∀ (c : Value), ((k = 0 ∧ c = .slice none 0 0) ∨ (k = 1 ∧ c = .map none) ∨ (k = 2 ∧ c = .nilFunc) ∨ (k = 3 ∧ c = .pointer none) ∨ (k = 4 ∧ c = .nilIface)) → ρ (.const c) = c := by
    rintro c (⟨_, rfl⟩ | ⟨_, rfl⟩ | ⟨_, rfl⟩ | ⟨_, rfl⟩ | ⟨_, rfl⟩)
    · exact hρ (.const (.slice none 0 0)) (.c .nils) rfl
    · exact hρ (.const (.map none)) (.c .nilm) rfl
    · exact hρ (.const .nilFunc) (.c .nilf) rfl
    · exact hρ (.const (.pointer none)) (.c .nilp) rfl
    · exact hρ (.const .nilIface) (.c .nili) rfl
  rcases hz with ⟨hn, hx⟩ | ⟨hn, hy⟩
  · obtain ⟨c, rfl, hc⟩ := nilO_cases hn
    have hu' := hρ x z' hx
    have heq := (run_eq_nil (P := P) hu hk hu' hr hc).1
    rw [cρ c hc]
    obtain ⟨n1, n2, n3, n4⟩ := val_not _ hu'
    exact Out.of hi (fin _ _ heq (guard c _ _ (.inr rfl) (one _ hu')) (run_binOp_eq heq n1 n2 n3 n4))
  · obtain ⟨c, rfl, hc⟩ := nilO_cases hn
    have hu' := hρ y z' hy
    have heq := (run_eq_nil (P := P) hu hk hu' hr hc).2
    rw [cρ c hc]
    obtain ⟨n1, n2, n3, n4, _⟩ := nil_not c hc
    exact Out.of hi (fin _ _ heq (guard c _ _ (.inl rfl) (cone _ hc)) (run_binOp_eq heq n1 n2 n3 n4))

end
end Go.AM
end
