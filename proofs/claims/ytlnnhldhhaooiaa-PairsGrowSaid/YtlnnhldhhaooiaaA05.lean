import Derived.Test.YtlnnhldhhaooiaaA04
import Derived.Laws.Strings
import Derived.Lib.Strings
import Derived.Laws.StructEq
import Derived.ChangeKeysEq

set_option linter.unusedVariables false
set_option linter.unusedSimpArgs false
set_option linter.unusedSectionVars false
set_option linter.unnecessarySimpa false

section
/- Operations that compute: numbers, strings, comparisons, parts of values. -/
namespace Go.AM
open Go

variable {κ κ' : K} {w w' : World} {P : Program}

theorem beqd {α : Type} [DecidableEq α] [BEq α] [LawfulBEq α] (a b : α) : (a == b) = decide (a = b) := by
  by_cases h : a = b <;> simp [h]

theorem run_bin_int {op : BinOp} {k k' : IntKind} {a b : Int} {r : AV} (h : bin op (.int k a) (.int k' b) = some r) (t : TypeId) :
    ∃ u, (Go.binOp op t (.int k a) (.int k' b)).run P w = .ok u w ∧ V κ w r u := by
  by_cases hk : k = k'
  · subst hk
    cases op <;> simp [bin, binInt, bits, shift] at h
    case quo => obtain ⟨h1, rfl⟩ := h; exact ⟨_, by simp [Go.binOp, Op.intDiv, h1], rfl⟩
    case rem => obtain ⟨h1, rfl⟩ := h; exact ⟨_, by simp [Go.binOp, Op.intDiv, h1], rfl⟩
    case shl => obtain ⟨h1, rfl⟩ := h; exact ⟨_, by simp [Go.binOp, Op.shift, show ¬ b < 0 by omega], rfl⟩
    case shr => obtain ⟨h1, rfl⟩ := h; exact ⟨_, by simp [Go.binOp, Op.shift, show ¬ b < 0 by omega], rfl⟩
    all_goals
      subst h
      exact ⟨_, by simp [Go.binOp, Op.intArith, Op.intCmp, Op.intBits, bne, beqd], rfl⟩
  · cases op <;> simp [bin, shift, hk] at h
    case shl => obtain ⟨h1, rfl⟩ := h; exact ⟨_, by simp [Go.binOp, Op.shift, show ¬ b < 0 by omega], rfl⟩
    case shr => obtain ⟨h1, rfl⟩ := h; exact ⟨_, by simp [Go.binOp, Op.shift, show ¬ b < 0 by omega], rfl⟩

theorem run_bin_str {op : BinOp} {a b : ByteArray} {r : AV} (h : binStr op a.data.toList b.data.toList = some r) (t : TypeId) :
    ∃ u, (Go.binOp op t (.string a) (.string b)).run P w = .ok u w ∧ V κ w r u := by
  have e1 := ByteArray.toList_eq a
  have e2 := ByteArray.toList_eq b
  cases op <;> simp only [binStr] at h <;> try (cases h; done)
  case add =>
    split at h
    · rename_i hle
      injection h with h
      subst h
      rw [← Lib.size_eq, ← Lib.size_eq] at hle
      refine ⟨.string (a ++ b), ?_, ?_⟩
      · have : ¬ (((a.size + b.size : Nat) : Int) > IntKind.i64.max) := by
          have : IntKind.i64.max = 9223372036854775807 := by decide
          omega
        simp only [Go.binOp, Op.stringOp, this, if_false]
        rfl
      · exact ⟨_, rfl, by simp⟩
    · cases h
  all_goals
    injection h with h
    subst h
    refine ⟨_, by simp only [Go.binOp, Op.stringOp, e1, e2]; rfl, ?_⟩
    simp only [V, beqd]

theorem run_eq_bool {t : TypeId} (ht : P.underlying t = some .bool) (a b : Bool) (w : World) : (Op.equal t (.bool a) (.bool b)).run P w = .ok (a == b) w := by
  have h : ∀ d, (Op.equalIn (d + 1) t (.bool a) (.bool b)).run P w = .ok (a == b) w := fun d => by simp [Op.equalIn, run_underlying ht]
  simp only [Op.equal, Op.maxDepth, h 9999]

theorem run_eqGuard_one {op : BinOp} {t : TypeId} {x y : Operand} {a b : Value} (h : ¬ (a = .nilIface ∧ b = .nilIface)) (h1 : a.oneCell' = true) (w : World) : (eqGuard op t x y a b).run P w = .ok () w := by
  cases a <;> first | (simp [Value.oneCell'] at h1; done) | skip
  all_goals
    cases b <;> first
      | (exact absurd ⟨rfl, rfl⟩ h)
      | (cases op <;> simp [eqGuard])

/-- The comparison, the arithmetic of two values of one cell. -/
theorem bin_sound {op : BinOp} {x y : AV} {u v : Value} {r : AV} (hx : V κ w x u) (hy : V κ w y v) (h : bin op x y = some r) {t : TypeId} (ht : ∀ a b, x = .bool a → y = .bool b → P.underlying t = some .bool) {ox oy : Operand} :
    ∃ z, (do eqGuard op t ox oy u v; Go.binOp op t u v : Sem Value).run P w = .ok z w ∧ V κ w r z := by
  cases x <;> simp only [bin] at h <;> try (cases h; done)
  case int k a =>
    cases y <;> simp only [] at h <;> try (cases h; done)
    case int k' b =>
      cases hx; cases hy
      obtain ⟨z, h1, h2⟩ := run_bin_int (P := P) (w := w) (κ := κ) (op := op) (k := k) (k' := k') (a := a) (b := b) (r := r) (by simpa only [bin] using h) t
      refine ⟨z, ?_, h2⟩
      simp [run_eqGuard_one (P := P) (op := op) (t := t) (x := ox) (y := oy) (a := .int k a) (b := .int k' b) (by simp) rfl w, h1]
  case str a =>
    cases y <;> simp only [] at h <;> try (cases h; done)
    case str b =>
      obtain ⟨s, rfl, rfl⟩ := hx
      obtain ⟨s', rfl, rfl⟩ := hy
      obtain ⟨z, h1, h2⟩ := run_bin_str (P := P) (w := w) (κ := κ) h t
      refine ⟨z, ?_, h2⟩
      simp [run_eqGuard_one (P := P) (op := op) (t := t) (x := ox) (y := oy) (a := .string s) (b := .string s') (by simp) rfl w, h1]
  case bool a =>
    cases y <;> simp only [] at h <;> try (cases h; done)
    case bool b =>
      cases hx; cases hy
      have hb := ht a b rfl rfl
      have hg := run_eqGuard_one (P := P) (op := op) (t := t) (x := ox) (y := oy) (a := .bool a) (b := .bool b) (by simp) rfl w
      cases op <;> simp only [] at h <;> try (cases h; done)
      all_goals
        injection h with h
        subst h
        refine ⟨_, by simp [hg, Go.binOp, run_eq_bool hb, beqd]; rfl, ?_⟩
        simp [V]

theorem isNil_sound {x : AV} {u : Value} (hx : V κ w x u) {t : Bool} (h : isNil x = some t) :
    (t = true ∧ (u = .pointer none ∨ u = .slice none 0 0 ∨ u = .map none ∨ u = .nilFunc ∨ u = .nilIface)) ∨
    (t = false ∧ ((∃ a, u = .pointer (some a)) ∨ (∃ a n c, u = .slice (some a) n c) ∨ (∃ r, u = .map (some r)) ∨ (∃ f a b, u = .func f a b ∧ (∀ m, f ≠ .method m)) ∨ (∃ t v, u = .iface t v))) := by
  cases x <;> simp only [isNil, Option.some.injEq, reduceCtorEq] at h <;> subst h
  case nilp => exact .inl ⟨rfl, .inl hx⟩
  case nils => exact .inl ⟨rfl, .inr (.inl hx)⟩
  case nilm => exact .inl ⟨rfl, .inr (.inr (.inl hx))⟩
  case nilf => exact .inl ⟨rfl, .inr (.inr (.inr (.inl hx)))⟩
  case nili => exact .inl ⟨rfl, .inr (.inr (.inr (.inr hx)))⟩
  case ref => obtain ⟨_, _, _, _, rfl⟩ := hx; exact .inr ⟨rfl, .inl ⟨_, rfl⟩⟩
  case fptr => obtain ⟨_, _, rfl, _⟩ := hx; exact .inr ⟨rfl, .inl ⟨_, rfl⟩⟩
  case fs => obtain ⟨_, _, _, rfl, _⟩ := hx; exact .inr ⟨rfl, .inr (.inl ⟨_, _, _, rfl⟩)⟩
  case row => obtain ⟨_, _, _, _, rfl, _⟩ := hx; exact .inr ⟨rfl, .inr (.inl ⟨_, _, _, rfl⟩)⟩
  case map => obtain ⟨_, _, _, _, rfl⟩ := hx; exact .inr ⟨rfl, .inr (.inr (.inl ⟨_, rfl⟩))⟩
  case fn => obtain ⟨_, rfl, _⟩ := hx; exact .inr ⟨rfl, .inr (.inr (.inr (.inl ⟨_, _, _, rfl, by simp⟩)))⟩
  case yld => obtain ⟨_, _, _, _, rfl⟩ := hx; exact .inr ⟨rfl, .inr (.inr (.inr (.inl ⟨_, _, _, rfl, by simp⟩)))⟩
  case iface => obtain ⟨_, rfl, _⟩ := hx; exact .inr ⟨rfl, .inr (.inr (.inr (.inr ⟨_, _, rfl⟩)))⟩

theorem un_sound {op : UnOp} {x : AV} {u : Value} (hx : V κ w x u) {r : AV} (h : un op x = some r) : ∃ z, (Op.unary op u).run P w = .ok z w ∧ V κ w r z := by
  cases x <;> simp only [un] at h <;> try (cases h; done)
  case int k n =>
    cases hx
    cases op <;> simp only [] at h <;> try (cases h; done)
    case neg => injection h with h; subst h; exact ⟨_, rfl, rfl⟩
    case xor => simp [bits] at h; subst h; exact ⟨_, rfl, rfl⟩
  case bool b =>
    cases hx
    cases op <;> simp only [] at h <;> try (cases h; done)
    case not => injection h with h; subst h; exact ⟨_, rfl, rfl⟩

/-- A part of cells. -/
theorem run_part {ag : Bool} {t : TypeId} {off n : Nat} (ha : isAg P t = some ag) (hn : size P t = some n) {cs : List AV} {vs : Array Value} (h1 : cs.all AV.one = true) (hv : VL κ w cs vs.toList) {r : AV} (h : partOf ag off n cs = some r) :
    ∃ u, (part t vs off).run P w = .ok u w ∧ V κ w r u := by
  unfold partOf at h
  split at h
  · rename_i hle
    cases ag with
    | true =>
      simp at h
      subst h
      refine ⟨.agg (vs.extract off (off + n)), by simp [part, run_isAg ha, run_sizeOf hn], ?_, _, rfl, ?_⟩
      · rw [List.all_eq_true] at h1 ⊢
        intro x hx
        exact h1 x (List.mem_of_mem_drop (List.mem_of_mem_take hx))
      · have := (hv.drop off).take n
        have e : (vs.extract off (off + n)).toList = (vs.toList.drop off).take n := by
          rw [Array.toList_extract]
          simp
        rw [e]
        exact this
    | false =>
      simp at h
      obtain ⟨u, h2, h3⟩ := hv.get h
      have h4 : vs[off]? = some u := by simpa using h2
      exact ⟨u, by simp [part, run_isAg ha, h4], h3⟩
  · cases h

/-! ### Comparing cells -/
theorem eqs_append {a c : List AV} (hl : a.length = c.length) (b d : List AV) : eqs (a ++ b) (c ++ d) = (do let x ← eqs a c; let y ← eqs b d; some (x && y)) := by
  induction a generalizing c with
  | nil =>
    cases c with
    | nil => cases h : eqs b d <;> simp [eqs, h]
    | cons _ _ => simp at hl
  | cons x as ih =>
    cases c with
    | nil => simp at hl
    | cons y cs =>
      simp only [List.cons_append, eqs]
      rw [ih (by simpa using hl)]
      cases eq1 x y with
      | none => rfl
      | some p =>
        cases eqs as cs with
        | none => rfl
        | some q =>
          cases eqs b d with
          | none => rfl
          | some r => simp [Bool.and_assoc]

/-- Two values of one cell, of the kind of their type. -/
theorem eq1_sound {t : TypeId} {ds : TypeDesc} (hu : P.underlying t = some ds) {a b : AV} {x y : Value} (hx : V κ w a x) (hy : V κ w b y) {r : Bool} (h : eq1 a b = some r)
    (hk : (ds = .bool ∧ a.kd = 0) ∨ (∃ k, ds = .int k) ∧ a.kd = 1 ∨ (ds = .string ∧ a.kd = 2)) (d : Nat) : (Op.equalIn (d + 1) t x y).run P w = .ok r w := by
  unfold eq1 at h
  split at h
  · rename_i k n k' n'
    split at h
    · rename_i hkk
      subst hkk
      injection h with h
      cases hx; cases hy
      rcases hk with ⟨_, hk⟩ | ⟨⟨k2, rfl⟩, _⟩ | ⟨_, hk⟩
      · simp [AV.kd] at hk
      · rw [run_equalIn_int w d t k k2 n n' hu, beqd, h]
      · simp [AV.kd] at hk
    · cases h
  · injection h with h
    obtain ⟨s, rfl, rfl⟩ := hx
    obtain ⟨s', rfl, rfl⟩ := hy
    rcases hk with ⟨_, hk⟩ | ⟨_, hk⟩ | ⟨rfl, _⟩
    · simp [AV.kd] at hk
    · simp [AV.kd] at hk
    · rw [run_equalIn_string w d t s s' hu, ByteArray.toList_eq, ByteArray.toList_eq, beqd, h]
  · injection h with h
    cases hx; cases hy
    rcases hk with ⟨rfl, _⟩ | ⟨_, hk⟩ | ⟨_, hk⟩
    · rw [run_equalIn_bool' w d t _ _ hu, beqd, h]
    · simp [AV.kd] at hk
    · simp [AV.kd] at hk
  · cases h

/-- Two parts of one plain type are compared as their cells. -/
def EqAt (P : Program) (κ : K) (w : World) (d : Nat) (t : TypeId) (ks : List Nat) : Prop :=
  ∀ (as bs : List AV) (vs us : Array Value) (off : Nat) (r : Bool), as.all AV.one = true → bs.all AV.one = true → VL κ w as vs.toList → VL κ w bs us.toList →
    ((as.drop off).take ks.length).map AV.kd = ks → ((bs.drop off).take ks.length).map AV.kd = ks →
    eqs ((as.drop off).take ks.length) ((bs.drop off).take ks.length) = some r →
    ∃ x y, (part t vs off).run P w = .ok x w ∧ (part t us off).run P w = .ok y w ∧ (Op.equalIn d t x y).run P w = .ok r w

theorem seg_len {as : List AV} {off : Nat} {ks : List Nat} (h : ((as.drop off).take ks.length).map AV.kd = ks) : ks.length ≤ (as.drop off).length := by
  have := congrArg List.length h
  simp at this
  simp
  omega

theorem kd_split {l : List AV} {ks ks' : List Nat} (h : l.map AV.kd = ks ++ ks') : (l.take ks.length).map AV.kd = ks ∧ (l.drop ks.length).map AV.kd = ks' := by
  constructor
  · rw [List.map_take, h]; simp
  · rw [List.map_drop, h]; simp

theorem eqFields_sound {d : Nat} {k : TypeId → Option (List Nat)} : ∀ (fs : List Field) (acc : Nat) (ks : List Nat), kindsF k acc fs = some ks → (∀ f ∈ fs, ∀ m, k f.type = some m → EqAt P κ w d f.type m) →
    ∀ (as bs : List AV) (xs ys : Array Value) (r : Bool), as.all AV.one = true → bs.all AV.one = true → VL κ w as xs.toList → VL κ w bs ys.toList → (as.drop acc).map AV.kd = ks → (bs.drop acc).map AV.kd = ks →
    eqs (as.drop acc) (bs.drop acc) = some r → (Op.eqFields d xs ys fs).run P w = .ok r w
  | [], acc, ks, hl, _, as, bs, xs, ys, r, _, _, _, _, h3, h4, h => by
    simp [kindsF] at hl
    subst hl
    have e1 : as.drop acc = [] := by simpa using h3
    have e2 : bs.drop acc = [] := by simpa using h4
    rw [e1, e2] at h
    simp [eqs] at h
    subst h
    rfl
  | f :: fs, acc, ks, hl, hf, as, bs, xs, ys, r, o1, o2, h1, h2, h3, h4, h => by
    simp only [kindsF, Option.bind_eq_bind, Option.bind_eq_some_iff] at hl
    obtain ⟨m, hm, hl⟩ := hl
    split at hl
    · rename_i hoff
      obtain ⟨hoff, hn⟩ := hoff
      cases hk : kindsF k (acc + m.length) fs with
      | none => rw [hk] at hl; cases hl
      | some ks' =>
        rw [hk] at hl
        simp at hl
        subst hl
        obtain ⟨a1, a2⟩ := kd_split h3
        obtain ⟨b1, b2⟩ := kd_split h4
        have la := congrArg List.length a1
        have lb := congrArg List.length b1
        simp only [List.length_map] at la lb
        rw [← List.take_append_drop m.length (as.drop acc), ← List.take_append_drop m.length (bs.drop acc), eqs_append (by rw [la, lb])] at h
        simp only [Option.bind_eq_bind, Option.bind_eq_some_iff] at h
        obtain ⟨p, hp, q, hq, h⟩ := h
        injection h with h
        subst h
        obtain ⟨x, y, p1, p2, p3⟩ := hf f (by simp) m hm as bs xs ys acc p o1 o2 h1 h2 a1 b1 hp
        rw [← hoff] at p1 p2
        rw [List.drop_drop] at a2 b2 hq
        rw [List.drop_drop] at hq
        have ih := eqFields_sound fs (acc + m.length) ks' hk (fun g hg => hf g (by simp [hg])) as bs xs ys q o1 o2 h1 h2 a2 b2 hq
        simp only [Op.eqFields, hn, ne_eq, not_false_eq_true, if_true, Sem.run_bind, p1, p2, p3, Result.andThen_ok]
        cases p
        · simp
        · simpa using ih
    · cases hl

theorem eqItems_sound {d e : Nat} {m : List Nat} (hE : EqAt P κ w d e m) (as bs : List AV) (xs ys : Array Value) (o1 : as.all AV.one = true) (o2 : bs.all AV.one = true) (h1 : VL κ w as xs.toList) (h2 : VL κ w bs ys.toList) :
    ∀ (k i : Nat) (r : Bool), (as.drop (i * m.length)).map AV.kd = reps k m → (bs.drop (i * m.length)).map AV.kd = reps k m → eqs (as.drop (i * m.length)) (bs.drop (i * m.length)) = some r → (Op.eqItems d e m.length xs ys (List.range' i k)).run P w = .ok r w
  | 0, i, r, h3, h4, h => by
    have e1 : as.drop (i * m.length) = [] := by simpa [reps] using h3
    have e2 : bs.drop (i * m.length) = [] := by simpa [reps] using h4
    rw [e1, e2] at h
    simp [eqs] at h
    subst h
    rfl
  | k + 1, i, r, h3, h4, h => by
    obtain ⟨a1, a2⟩ := kd_split h3
    obtain ⟨b1, b2⟩ := kd_split h4
    have la := congrArg List.length a1
    have lb := congrArg List.length b1
    simp only [List.length_map] at la lb
    rw [← List.take_append_drop m.length (as.drop (i * m.length)), ← List.take_append_drop m.length (bs.drop (i * m.length)), eqs_append (by rw [la, lb])] at h
    simp only [Option.bind_eq_bind, Option.bind_eq_some_iff] at h
    obtain ⟨p, hp, q, hq, h⟩ := h
    injection h with h
    subst h
    obtain ⟨x, y, p1, p2, p3⟩ := hE as bs xs ys (i * m.length) p o1 o2 h1 h2 a1 b1 hp
    have e : i * m.length + m.length = (i + 1) * m.length := by rw [Nat.add_mul, Nat.one_mul]
    rw [List.drop_drop, e] at a2 b2 hq
    rw [List.drop_drop, e] at hq
    have ih := eqItems_sound hE as bs xs ys o1 o2 h1 h2 k (i + 1) q a2 b2 hq
    simp only [List.range'_succ, Op.eqItems, Sem.run_bind, p1, p2, p3, Result.andThen_ok]
    cases p
    · simp
    · simpa using ih

theorem VL_extract {as : List AV} {vs : Array Value} (h : VL κ w as vs.toList) (off n : Nat) : VL κ w ((as.drop off).take n) (vs.extract off (off + n)).toList := by
  have := (h.drop off).take n
  rw [Array.toList_extract]
  simpa using this

theorem all_seg {as : List AV} (h : as.all AV.one = true) (off n : Nat) : ((as.drop off).take n).all AV.one = true := by
  rw [List.all_eq_true] at h ⊢
  intro x hx
  exact h x (List.mem_of_mem_drop (List.mem_of_mem_take hx))

theorem kinds_some {d : Nat} {t : TypeId} {ks : List Nat} (h : kinds P (d + 1) t = some ks) : ∃ ds, P.underlying t = some ds ∧ kindsD P (kinds P d) t ds = some ks ∧ size P t = some ks.length := by
  simp only [kinds] at h
  split at h
  · rename_i ds hu
    split at h
    · rename_i ks' hk
      split at h
      · rename_i hn
        injection h with h
        subst h
        exact ⟨ds, hu, hk, hn⟩
      · cases h
    · cases h
  · cases h

theorem eqAt_kinds : ∀ (d : Nat) (t : TypeId) (ks : List Nat), kinds P d t = some ks → ∀ (D : Nat), EqAt P κ w (D + d) t ks
  | 0, t, ks, h, _ => by simp [kinds] at h
  | d + 1, t, ks, h, D => by
    intro as bs vs us off r o1 o2 h1 h2 h3 h4 he
    obtain ⟨ds, hu, hk, hn⟩ := kinds_some h
    · have agg : (∃ fs, ds = .struct fs) ∨ (∃ k e, ds = .array k e) → isAg P t = some true := by
        rintro (⟨fs, rfl⟩ | ⟨k, e, rfl⟩) <;> simp [isAg, hu]
      have one : ks.length = 1 → (∀ fs, ds ≠ .struct fs) → (∀ k e, ds ≠ .array k e) → ∃ a b x y, as[off]? = some a ∧ bs[off]? = some b ∧ V κ w a x ∧ V κ w b y ∧ eq1 a b = some r ∧ (part t vs off).run P w = .ok x w ∧ (part t us off).run P w = .ok y w ∧ [a.kd] = ks := by
        intro h5 hs1 hs2
        have ha : isAg P t = some false := by
          cases ds <;> first | (exact absurd rfl (hs1 _)) | (exact absurd rfl (hs2 _ _)) | simp [isAg, hu]
        have l1 := seg_len h3
        have l2 := seg_len h4
        simp only [List.length_drop] at l1 l2
        have ha1 : as[off]? = some (as[off]'(by omega)) := List.getElem?_eq_getElem (by omega)
        have hb1 : bs[off]? = some (bs[off]'(by omega)) := List.getElem?_eq_getElem (by omega)
        obtain ⟨x, hx1, hx2⟩ := h1.get ha1
        obtain ⟨y, hy1, hy2⟩ := h2.get hb1
        have ea : (as.drop off).take 1 = [as[off]'(by omega)] := by rw [List.drop_eq_getElem_cons (by omega)]; rfl
        have eb : (bs.drop off).take 1 = [bs[off]'(by omega)] := by rw [List.drop_eq_getElem_cons (by omega)]; rfl
        rw [h5, ea, eb] at he
        rw [h5, ea] at h3
        refine ⟨_, _, x, y, ha1, hb1, hx2, hy2, ?_, ?_, ?_, by simpa using h3⟩
        · cases h6 : eq1 (as[off]'(by omega)) (bs[off]'(by omega)) with
          | none => simp [eqs, h6] at he
          | some p => simp [eqs, h6] at he; rw [he]
        · have : vs[off]? = some x := by simpa using hx1
          simp [part, run_isAg ha, this]
        · have : us[off]? = some y := by simpa using hy1
          simp [part, run_isAg ha, this]
      cases ds <;> simp only [kindsD] at hk <;> try (cases hk; done)
      case struct fs =>
        split at hk
        · cases hk
        · rename_i hst
          have ha := agg (.inl ⟨fs, rfl⟩)
          refine ⟨.agg (vs.extract off (off + ks.length)), .agg (us.extract off (off + ks.length)), by simp [part, run_isAg ha, run_sizeOf hn], by simp [part, run_isAg ha, run_sizeOf hn], ?_⟩
          have hfo : P.fieldsOf t = fs := by simp [Program.fieldsOf, hu]
          rw [show D + (d + 1) = (D + d) + 1 from rfl, run_equalIn_struct w (D + d) t _ _ (by rw [hfo]; exact hu) (by simpa using hst), hfo]
          exact eqFields_sound fs.toList 0 ks hk (fun f _ m hm => eqAt_kinds d f.type m hm D) _ _ _ _ r (all_seg o1 off _) (all_seg o2 off _) (VL_extract h1 off _) (VL_extract h2 off _) (by simpa using h3) (by simpa using h4) (by simpa using he)
      case array k e =>
        cases hke : kinds P d e with
        | none => rw [hke] at hk; cases hk
        | some m =>
          rw [hke] at hk
          simp at hk
          subst hk
          have ha := agg (.inr ⟨k, e, rfl⟩)
          have hsz : size P e = some m.length := by
            cases d with
            | zero => simp [kinds] at hke
            | succ d => exact (kinds_some hke).choose_spec.2.2
          obtain ⟨i, hi, hi2⟩ := size_some hsz
          have hco : P.cellsOf e = m.length := by simp [Program.cellsOf, hi, hi2]
          refine ⟨.agg (vs.extract off (off + (reps k m).length)), .agg (us.extract off (off + (reps k m).length)), by simp [part, run_isAg ha, run_sizeOf hn], by simp [part, run_isAg ha, run_sizeOf hn], ?_⟩
          rw [show D + (d + 1) = (D + d) + 1 from rfl, run_equalIn_array w (D + d) _ _ hu hi, hco, List.range_eq_range']
          exact eqItems_sound (eqAt_kinds d e m hke D) _ _ _ _ (all_seg o1 off _) (all_seg o2 off _) (VL_extract h1 off _) (VL_extract h2 off _) k 0 r (by simpa using h3) (by simpa using h4) (by simpa using he)
      case bool =>
        injection hk with hk
        subst hk
        obtain ⟨a, b, x, y, _, _, c1, c2, c3, c4, c5, c6⟩ := one rfl (by simp) (by simp)
        exact ⟨x, y, c4, c5, eq1_sound hu c1 c2 c3 (.inl ⟨rfl, by simpa using c6⟩) (D + d)⟩
      case int kk =>
        injection hk with hk
        subst hk
        obtain ⟨a, b, x, y, _, _, c1, c2, c3, c4, c5, c6⟩ := one rfl (by simp) (by simp)
        exact ⟨x, y, c4, c5, eq1_sound hu c1 c2 c3 (.inr (.inl ⟨⟨kk, rfl⟩, by simpa using c6⟩)) (D + d)⟩
      case string =>
        injection hk with hk
        subst hk
        obtain ⟨a, b, x, y, _, _, c1, c2, c3, c4, c5, c6⟩ := one rfl (by simp) (by simp)
        exact ⟨x, y, c4, c5, eq1_sound hu c1 c2 c3 (.inr (.inr ⟨rfl, by simpa using c6⟩)) (D + d)⟩

end Go.AM
end
