import Derived.Test.YtlnnhldhhaooiaaAa

set_option linter.unusedVariables false
set_option linter.unusedSimpArgs false
set_option linter.unusedSectionVars false
set_option linter.unnecessarySimpa false

section
/- Orders of evaluation, in the abstract machine. -/
namespace Go.AM
open Go

section
variable (T : Tab) (rec : Ctx → AC → St → Option (Ex × St)) (cx : Ctx) (b0 : Nat)

def stepO (o : AO) (st : St) : Option (St × Fp) :=
  match wanted st.fr o.guard with
  | some true => do
    let a ← act st.fr b0 o.op
    let (v, h) ← doAct T rec cx st.h a
    some ({ st with fr := put st.fr o.dst v, h := h }, Fp.of T st.h h a)
  | some false => some ({ st with fr := put st.fr o.dst (.tup []) }, .nop)
  | none => none

def Runs (aos : List AO) : List Nat → St → (Nat → Fp) → St → Prop
  | [], st, _, st' => st' = st
  | i :: l, st, f, st' => ∃ o st1, aos[i]? = some o ∧ stepO T rec cx b0 o st = some (st1, f i) ∧ Runs aos l st1 f st'
end

variable {T : Tab} {rec : Ctx → AC → St → Option (Ex × St)} {cx : Ctx} {b0 : Nat}

theorem runs_append {aos : List AO} {f : Nat → Fp} : ∀ {l m : List Nat} {st st' : St}, Runs T rec cx b0 aos (l ++ m) st f st' ↔ ∃ st1, Runs T rec cx b0 aos l st f st1 ∧ Runs T rec cx b0 aos m st1 f st'
  | [], m, st, st' => by simp [Runs]
  | i :: l, m, st, st' => by
    simp only [List.cons_append, Runs]
    constructor
    · rintro ⟨o, st1, h1, h2, h3⟩
      obtain ⟨st2, h4, h5⟩ := runs_append.1 h3
      exact ⟨st2, ⟨o, st1, h1, h2, h4⟩, h5⟩
    · rintro ⟨st2, ⟨o, st1, h1, h2, h4⟩, h5⟩
      exact ⟨o, st1, h1, h2, runs_append.2 ⟨st2, h4, h5⟩⟩

/-! ### What an operation sees of a frame -/
theorem opd_set {fr : List AV} {d : Nat} {v : AV} {x : Opd} (h : d ∉ x.ts) : opd (fr.set d v) x = opd fr x := by
  cases x with
  | c _ => rfl
  | t n =>
    have : d ≠ n := by simpa [Opd.ts, eq_comm] using h
    simp [opd, List.getD_eq_getElem?_getD, List.getElem?_set_ne this]

theorem map_opd {fr fr' : List AV} {l : List Opd} (h : ∀ x ∈ l, opd fr' x = opd fr x) : l.map (opd fr') = l.map (opd fr) := List.map_congr_left h

theorem act_congr {fr fr' : List AV} {b0 : Nat} (o : AOp) (h : ∀ x ∈ o.opds, opd fr' x = opd fr x) : act fr' b0 o = act fr b0 o := by
  cases o
  case build z ps =>
    have : mkParts fr' ps = mkParts fr ps := by
      simp only [mkParts]
      apply List.map_congr_left
      rintro ⟨a, b, x⟩ hx
      simp only [h x (by simp only [AOp.opds, List.mem_map]; exact ⟨_, hx, rfl⟩)]
    simp only [act, this]
  case lit n z ps =>
    have : mkParts' fr' ps = mkParts' fr ps := by
      simp only [mkParts']
      apply List.map_congr_left
      rintro ⟨a, x⟩ hx
      simp only [h x (by simp only [AOp.opds, List.mem_map]; exact ⟨_, hx, rfl⟩)]
    simp only [act, this]
  case mkfn f l => simp only [act, map_opd (l := l) h]
  case callf f l => simp only [act, map_opd (l := l) h]
  case mx l => simp only [act, map_opd (l := l) h]
  case mn l => simp only [act, map_opd (l := l) h]
  case callv g l =>
    have h1 := h g (by simp [AOp.opds])
    have h2 := map_opd (fr := fr) (fr' := fr') (l := l) (fun x hx => h x (by simp [AOp.opds, hx]))
    simp only [act, h1, h2]
  case slice z x a b c =>
    have hx := h x (by simp [AOp.opds])
    have ho : ∀ y : Option Opd, (∀ u ∈ oOpd y, u ∈ AOp.opds (.slice z x a b c)) → y.map (opd fr') = y.map (opd fr) := by
      intro y hy
      cases y with
      | none => rfl
      | some u => simp only [Option.map_some, h u (hy u (by simp [oOpd]))]
    simp only [act, hx, ho a (fun u hu => by simp [AOp.opds, hu]), ho b (fun u hu => by simp [AOp.opds, hu]), ho c (fun u hu => by simp [AOp.opds, hu])]
  case substr x a b c =>
    have hx := h x (by simp [AOp.opds])
    have ho : ∀ y : Option Opd, (∀ u ∈ oOpd y, u ∈ AOp.opds (.substr x a b c)) → y.map (opd fr') = y.map (opd fr) := by
      intro y hy
      cases y with
      | none => rfl
      | some u => simp only [Option.map_some, h u (hy u (by simp [oOpd]))]
    simp only [act, hx, ho a (fun u hu => by simp [AOp.opds, hu]), ho b (fun u hu => by simp [AOp.opds, hu]), ho c (fun u hu => by simp [AOp.opds, hu])]
  all_goals
    simp only [AOp.opds, List.mem_cons, List.not_mem_nil, or_false, forall_eq_or_imp, forall_eq] at h
    first
      | rfl
      | (simp only [act, h])
      | (obtain ⟨h1, h2⟩ := h; simp only [act, h1, h2])
      | (obtain ⟨h1, h2, h3⟩ := h; simp only [act, h1, h2, h3])

theorem put_looks {fr : List AV} {dst : Option Nat} {v : AV} {o : AO} (h : ∀ d, dst = some d → d ∉ o.looks) : act (put fr dst v) b0 o.op = act fr b0 o.op ∧ wanted (put fr dst v) o.guard = wanted fr o.guard := by
  cases dst with
  | none => exact ⟨rfl, rfl⟩
  | some d =>
    have hd := h d rfl
    simp only [AO.looks, List.mem_append, not_or] at hd
    constructor
    · refine act_congr _ fun x hx => opd_set fun hm => hd.1 (List.mem_flatMap.2 ⟨x, hx, hm⟩)
    · cases hg : o.guard with
      | none => rfl
      | some p =>
        obtain ⟨t, w⟩ := p
        have : d ≠ t := fun e => hd.2 (by rw [hg]; simp [e])
        simp [wanted, put, List.getD_eq_getElem?_getD, List.getElem?_set_ne this]

theorem put_comm {fr : List AV} {a b : Option Nat} {u v : AV} (h : ∀ d, a = some d → b ≠ some d) : put (put fr a u) b v = put (put fr b v) a u := by
  cases a with
  | none => rfl
  | some x =>
    cases b with
    | none => rfl
    | some y =>
      have : x ≠ y := fun e => h x rfl (by rw [e])
      simp only [put]
      exact List.set_comm u v this

theorem AO.apart_spec {x y : AO} (h : x.apart y = true) : (∀ d, x.dst = some d → d ∉ y.looks) ∧ (∀ d, x.dst = some d → y.dst ≠ some d) ∧ (∀ d, y.dst = some d → d ∉ x.looks) := by
  refine ⟨fun d hd => ?_, fun d hd => ?_, fun d hd => ?_⟩ <;> simp [AO.apart, hd] at h
  · exact h.1.1
  · exact h.1.2
  · exact h.2

/-! ### Acts that may change places -/
/-- Two acts give the same in either order. -/
def Comm (T : Tab) (rec : Ctx → AC → St → Option (Ex × St)) (cx : Ctx) (a b : Act) : Prop :=
  ∀ h v1 h1 v2 h2, doAct T rec cx h a = some (v1, h1) → doAct T rec cx h1 b = some (v2, h2) → Fp.ok (Fp.of T h h1 a) (Fp.of T h1 h2 b) = true →
    ∃ h1', doAct T rec cx h b = some (v2, h1') ∧ doAct T rec cx h1' a = some (v1, h2) ∧ Fp.of T h h1' b = Fp.of T h1 h2 b ∧ Fp.of T h1' h2 a = Fp.of T h h1 a

/-- An act that leaves all boxes. -/
def Keeps (T : Tab) (rec : Ctx → AC → St → Option (Ex × St)) (cx : Ctx) (a : Act) : Prop := ∀ h v h', doAct T rec cx h a = some (v, h') → h' = h

theorem keeps_comm {a b : Act} (ha : Keeps T rec cx a) (hb : Keeps T rec cx b) {h : Heap} {v1 : AV} {h1 : Heap} {v2 : AV} {h2 : Heap} (e1 : doAct T rec cx h a = some (v1, h1)) (e2 : doAct T rec cx h1 b = some (v2, h2)) :
    ∃ h1', doAct T rec cx h b = some (v2, h1') ∧ doAct T rec cx h1' a = some (v1, h2) ∧ Fp.of T h h1' b = Fp.of T h1 h2 b ∧ Fp.of T h1' h2 a = Fp.of T h h1 a := by
  have := ha h v1 h1 e1
  subst this
  have := hb h1 v2 h2 e2
  subst this
  exact ⟨h2, e2, e1, rfl, rfl⟩

end Go.AM
end

section
/- Acts that change places. -/
namespace Go.AM
open Go

variable {T : Tab} {rec : Ctx → AC → St → Option (Ex × St)} {cx : Ctx} {b0 : Nat}

theorem bind_some' {α β : Type} {x : Option α} {f : α → Option β} {b : β} (h : (x >>= f) = some b) : ∃ a, x = some a ∧ f a = some b := by
  cases x with
  | none => cases h
  | some a => exact ⟨a, rfl, h⟩

theorem splice_get {cs : List AV} {f : Nat} {new : List AV} (h : f + new.length ≤ cs.length) (k : Nat) : (splice cs f new)[k]? = if f ≤ k ∧ k < f + new.length then new[k - f]? else cs[k]? := by
  unfold splice
  rw [List.getElem?_append, List.getElem?_append]
  simp only [List.length_append, List.length_take, Nat.min_eq_left (by omega : f ≤ cs.length)]
  by_cases h1 : k < f + new.length
  · rw [if_pos h1]
    by_cases h2 : k < f
    · rw [if_pos h2, if_neg (by omega), List.getElem?_take, if_pos h2]
    · rw [if_neg h2, if_pos (by omega)]
  · rw [if_neg h1, if_neg (by omega), List.getElem?_drop]
    congr 1
    omega

theorem splice_length {cs : List AV} {f : Nat} {new : List AV} (h : f + new.length ≤ cs.length) : (splice cs f new).length = cs.length := by
  simp [splice]; omega

theorem part_splice {ag : Bool} {cs : List AV} {f : Nat} {new : List AV} (h : f + new.length ≤ cs.length) {f' n' : Nat} (hd : f' + max n' 1 ≤ f ∨ f + new.length ≤ f') : partOf ag f' n' (splice cs f new) = partOf ag f' n' cs := by
  simp only [partOf, splice_length h]
  split
  · cases ag with
    | true =>
      simp only [if_true]
      congr 2
      apply List.ext_getElem?
      intro k
      rw [List.getElem?_take, List.getElem?_take]
      split
      · rw [List.getElem?_drop, List.getElem?_drop, splice_get h, if_neg (by omega)]
      · rfl
    | false =>
      simp only [Bool.false_eq_true, if_false]
      rw [splice_get h, if_neg (by omega)]
  · rfl

theorem splice_comm {cs : List AV} {f f' : Nat} {a b : List AV} (h : f + a.length ≤ cs.length) (h' : f' + b.length ≤ cs.length) (hd : f + a.length ≤ f' ∨ f' + b.length ≤ f) : splice (splice cs f a) f' b = splice (splice cs f' b) f a := by
  apply List.ext_getElem?
  intro k
  rw [splice_get (by rw [splice_length h]; exact h'), splice_get h, splice_get (by rw [splice_length h']; exact h), splice_get h']
  by_cases h1 : f' ≤ k ∧ k < f' + b.length
  · rw [if_pos h1, if_neg (by omega), if_pos h1]
  · rw [if_neg h1, if_neg h1]

theorem rdRow_set {h : Heap} {i j v ver : Nat} {es : List (List AV)} : rdRow (h.set i (.cells ver es)) j v = if i = j then (if i < h.length then (if ver = v then some es else none) else none) else rdRow h j v := by
  unfold rdRow
  by_cases e : i = j
  · subst e
    rw [if_pos rfl]
    by_cases hl : i < h.length
    · rw [List.getElem?_set_self hl, if_pos hl]
    · rw [if_neg hl, List.getElem?_eq_none (by simpa using hl)]
  · rw [List.getElem?_set_ne e, if_neg e]

theorem rdRow_get {h : Heap} {i v : Nat} {es : List (List AV)} (hr : rdRow h i v = some es) : h[i]? = some (.cells v es) ∧ i < h.length := by
  unfold rdRow at hr
  split at hr
  · rename_i v' es' he
    split at hr
    · rename_i hv; injection hr with hr; subst hr; subst hv; exact ⟨he, (List.getElem?_eq_some_iff.1 he).1⟩
    · cases hr
  · cases hr

theorem do_load {ag : Bool} {i v e f n : Nat} {h h' : Heap} {x : AV} : doAct T rec cx h (.load ag i v e f n) = some (x, h') ↔ rdAt h ag i v e f n = some x ∧ h' = h := by
  simp only [doAct, rdAt, Option.bind_eq_bind]
  constructor
  · intro hh
    obtain ⟨es, h1, hh⟩ := Option.bind_eq_some_iff.1 hh
    obtain ⟨cs, h2, hh⟩ := Option.bind_eq_some_iff.1 hh
    obtain ⟨y, h3, hh⟩ := Option.bind_eq_some_iff.1 hh
    injection hh with hh
    injection hh with a b
    subst a; subst b
    exact ⟨by simp [h1, h2, h3], rfl⟩
  · rintro ⟨hh, rfl⟩
    obtain ⟨es, h1, hh⟩ := Option.bind_eq_some_iff.1 hh
    obtain ⟨cs, h2, hh⟩ := Option.bind_eq_some_iff.1 hh
    simp [h1, h2, hh]

theorem do_store {i v e f : Nat} {cs : List AV} {h h' : Heap} {x : AV} : doAct T rec cx h (.store i v e f cs) = some (x, h') ↔
    cx.wp ≤ i ∧ ∃ es old, rdRow h i v = some es ∧ es[e]? = some old ∧ f + cs.length ≤ old.length ∧ x = .tup [] ∧ h' = h.set i (.cells v (es.set e (splice old f cs))) := by
  simp only [doAct]
  constructor
  · intro hh
    split at hh
    · rename_i hw
      obtain ⟨es, h1, hh⟩ := bind_some' hh
      obtain ⟨old, h2, hh⟩ := bind_some' hh
      split at hh
      · rename_i hf
        injection hh with hh
        injection hh with a b
        exact ⟨by simpa using hw, es, old, h1, h2, hf, a.symm, b.symm⟩
      · cases hh
    · cases hh
  · rintro ⟨hw, es, old, h1, h2, hf, rfl, rfl⟩
    simp [hw, h1, h2, hf]

theorem rd_store {h : Heap} {i v e f : Nat} {cs : List AV} {es : List (List AV)} {old : List AV} (h1 : rdRow h i v = some es) (h2 : es[e]? = some old) (h3 : f + cs.length ≤ old.length) {ag : Bool} {i' v' e' f' n' : Nat}
    (hd : i' ≠ i ∨ e' ≠ e ∨ f' + max n' 1 ≤ f ∨ f + cs.length ≤ f') : rdAt (h.set i (.cells v (es.set e (splice old f cs)))) ag i' v' e' f' n' = rdAt h ag i' v' e' f' n' := by
  obtain ⟨h4, h5⟩ := rdRow_get h1
  simp only [rdAt, rdRow_set]
  by_cases hi : i = i'
  · subst hi
    rw [if_pos rfl, if_pos h5]
    by_cases hv : v = v'
    · subst hv
      rw [if_pos rfl, h1]
      simp only [Option.bind_eq_bind, Option.bind_some]
      by_cases he : e = e'
      · subst he
        rw [List.getElem?_set_self (List.getElem?_eq_some_iff.1 h2).1, h2]
        simp only [Option.bind_some]
        exact part_splice h3 (by omega)
      · rw [List.getElem?_set_ne he]
    · rw [if_neg hv]
      have : rdRow h i v' = none := by simp [rdRow, h4, hv]
      rw [this]
  · rw [if_neg hi]

mutual
theorem AV.beq_eq : ∀ (a b : AV), AV.beq a b = true → a = b
  | .any, b, h => by simp [AV.beq] at h
  | .bool x, b, h => by cases b <;> simp [AV.beq] at h; rw [h]
  | .int k n, b, h => by cases b <;> simp [AV.beq] at h; rw [h.1, h.2]
  | .str s, b, h => by cases b <;> simp [AV.beq] at h; rw [h]
  | .nilp, b, h => by cases b <;> simp [AV.beq] at h; rfl
  | .ref i v e f, b, h => by cases b <;> simp [AV.beq] at h; obtain ⟨⟨⟨rfl, rfl⟩, rfl⟩, rfl⟩ := h; rfl
  | .fptr cs, b, h => by cases b <;> simp [AV.beq] at h; rw [AV.beqs_eq _ _ h]
  | .nils, b, h => by cases b <;> simp [AV.beq] at h; rfl
  | .fs es x, b, h => by cases b <;> simp [AV.beq] at h; rw [AV.beqss_eq _ _ h.1, h.2]
  | .row i v o n c z, b, h => by cases b <;> simp [AV.beq] at h; obtain ⟨⟨⟨⟨⟨rfl, rfl⟩, rfl⟩, rfl⟩, rfl⟩, rfl⟩ := h; rfl
  | .nilm, b, h => by cases b <;> simp [AV.beq] at h; rfl
  | .map i, b, h => by cases b <;> simp [AV.beq] at h; rw [h]
  | .fn f cap, b, h => by cases b <;> simp [AV.beq] at h; rw [h.1, AV.beqs_eq _ _ h.2]
  | .yld i, b, h => by cases b <;> simp [AV.beq] at h; rw [h]
  | .nilf, b, h => by cases b <;> simp [AV.beq] at h; rfl
  | .nili, b, h => by cases b <;> simp [AV.beq] at h; rfl
  | .iface t v, b, h => by cases b <;> simp [AV.beq] at h; rw [h.1, AV.beq_eq _ _ h.2]
  | .agg cs, b, h => by cases b <;> simp [AV.beq] at h; rw [AV.beqs_eq _ _ h]
  | .tup cs, b, h => by cases b <;> simp [AV.beq] at h; rw [AV.beqs_eq _ _ h]
theorem AV.beqs_eq : ∀ (a b : List AV), AV.beqs a b = true → a = b
  | [], b, h => by cases b <;> simp [AV.beqs] at h; rfl
  | x :: xs, b, h => by cases b <;> simp [AV.beqs] at h; rw [AV.beq_eq _ _ h.1, AV.beqs_eq _ _ h.2]
theorem AV.beqss_eq : ∀ (a b : List (List AV)), AV.beqss a b = true → a = b
  | [], b, h => by cases b <;> simp [AV.beqss] at h; rfl
  | x :: xs, b, h => by cases b <;> simp [AV.beqss] at h; rw [AV.beqs_eq _ _ h.1, AV.beqss_eq _ _ h.2]
end

/-- What kinds of acts there are. -/
inductive AK (T : Tab) : Act → Prop
  | val (v) : AK T (.val v)
  | load (ag i v e f n) : AK T (.load ag i v e f n)
  | store (i v e f cs) : AK T (.store i v e f cs)
  | pure (f as) (h : T.pure f = true) : AK T (.call f as)
  | eff (a) (h : ∀ h h', Fp.of T h h' a = .eff h h') : AK T a

theorem ak (T : Tab) (a : Act) : AK T a := by
  cases a <;> first
    | exact .val _
    | exact .load _ _ _ _ _ _
    | exact .store _ _ _ _ _
    | exact .eff _ (fun _ _ => rfl)
    | skip
  rename_i f as
  by_cases h : T.pure f = true
  · exact .pure f as h
  · exact .eff _ (fun _ _ => by simp only [Fp.of, if_neg h])

theorem pure_keeps {f : Nat} {as : List AV} (h : T.pure f = true) : Keeps T rec cx (.call f as) := by
  intro hp v h' hd
  simp only [doAct, callF] at hd
  unfold Tab.pure at h
  split at h
  · rename_i a hf
    simp only [hf] at hd
    have hm : a.mode = 2 := by simpa using h
    split at hd
    case isFalse => cases hd
    split at hd <;> first
      | (cases hd; done)
      | (split at hd
         · obtain ⟨v', h1, hd⟩ := bind_some' hd
           rw [hm] at hd
           simp only [leave] at hd
           obtain ⟨v'', _, hd⟩ := Option.map_eq_some_iff.1 hd
           injection hd with _ hd
           exact hd.symm
         · cases hd)
  · cases h

theorem comm_ok {a b : Act} : Comm T rec cx a b := by
  intro h v1 h1 v2 h2 e1 e2 ok
  cases ak T a with
  | val v =>
    simp only [doAct, Option.some.injEq, Prod.mk.injEq] at e1
    obtain ⟨rfl, rfl⟩ := e1
    exact ⟨_, e2, rfl, rfl, rfl⟩
  | load ag i v e f n =>
    obtain ⟨r1, rfl⟩ := do_load.1 e1
    cases ak T b with
    | val v' =>
      simp only [doAct, Option.some.injEq, Prod.mk.injEq] at e2
      obtain ⟨rfl, rfl⟩ := e2
      exact ⟨_, rfl, e1, rfl, rfl⟩
    | load ag' i' v' e' f' n' =>
      obtain ⟨r2, rfl⟩ := do_load.1 e2
      exact ⟨h2, e2, e1, rfl, rfl⟩
    | store i' v' e' f' cs =>
      obtain ⟨hw, es, old, q1, q2, q3, rfl, rfl⟩ := do_store.1 e2
      simp only [Fp.of, Fp.ok, decide_eq_true_eq] at ok
      refine ⟨_, e2, do_load.2 ⟨?_, rfl⟩, rfl, rfl⟩
      rw [rd_store q1 q2 q3 (by omega)]
      exact r1
    | pure f' as hp =>
      have := pure_keeps hp _ _ _ e2
      subst this
      exact ⟨h2, e2, e1, by simp [Fp.of, hp], rfl⟩
    | eff b hb =>
      rw [hb] at ok
      simp only [Fp.of, Fp.ok] at ok
      refine ⟨h2, e2, do_load.2 ⟨?_, rfl⟩, rfl, rfl⟩
      rw [r1] at ok
      split at ok
      · rename_i x y ex ey
        injection ex with ex
        rw [ey, ← AV.beq_eq _ _ ok, ex]
      · cases ok
  | store i v e f cs =>
    obtain ⟨hw, es, old, p1, p2, p3, rfl, rfl⟩ := do_store.1 e1
    obtain ⟨p4, p5⟩ := rdRow_get p1
    cases ak T b with
    | val v' =>
      simp only [doAct, Option.some.injEq, Prod.mk.injEq] at e2
      obtain ⟨rfl, rfl⟩ := e2
      exact ⟨_, rfl, e1, rfl, rfl⟩
    | load ag' i' v' e' f' n' =>
      obtain ⟨r2, rfl⟩ := do_load.1 e2
      simp only [Fp.of, Fp.ok, decide_eq_true_eq] at ok
      rw [rd_store p1 p2 p3 (by omega)] at r2
      exact ⟨h, do_load.2 ⟨r2, rfl⟩, e1, rfl, rfl⟩
    | store i' v' e' f' cs' =>
      obtain ⟨hw', es', old', q1, q2, q3, rfl, rfl⟩ := do_store.1 e2
      simp only [Fp.of, Fp.ok, decide_eq_true_eq] at ok
      by_cases hi : i = i'
      · subst hi
        rw [rdRow_set, if_pos rfl, if_pos p5] at q1
        split at q1
        · rename_i hv
          subst hv
          injection q1 with q1
          subst q1
          by_cases he : e = e'
          · subst he
            rw [List.getElem?_set_self (List.getElem?_eq_some_iff.1 p2).1] at q2
            injection q2 with q2
            subst q2
            rw [splice_length p3] at q3
            refine ⟨h.set i (.cells v (es.set e (splice old f' cs'))), do_store.2 ⟨hw', es, old, p1, p2, q3, rfl, rfl⟩, do_store.2 ⟨hw, es.set e (splice old f' cs'), splice old f' cs', ?_, List.getElem?_set_self (List.getElem?_eq_some_iff.1 p2).1, by rw [splice_length q3]; exact p3, rfl, ?_⟩, rfl, rfl⟩
            · rw [rdRow_set, if_pos rfl, if_pos p5, if_pos rfl]
            · rw [List.set_set, List.set_set, List.set_set, List.set_set, splice_comm p3 q3 (by omega)]
          · rw [List.getElem?_set_ne he] at q2
            refine ⟨h.set i (.cells v (es.set e' (splice old' f' cs'))), do_store.2 ⟨hw', es, old', p1, q2, q3, rfl, rfl⟩, do_store.2 ⟨hw, es.set e' (splice old' f' cs'), old, ?_, by rw [List.getElem?_set_ne (Ne.symm he)]; exact p2, p3, rfl, ?_⟩, rfl, rfl⟩
            · rw [rdRow_set, if_pos rfl, if_pos p5, if_pos rfl]
            · rw [List.set_set, List.set_set, List.set_comm _ _ he]
        · cases q1
      · rw [rdRow_set, if_neg hi] at q1
        refine ⟨h.set i' (.cells v' (es'.set e' (splice old' f' cs'))), do_store.2 ⟨hw', es', old', q1, q2, q3, rfl, rfl⟩, do_store.2 ⟨hw, es, old, ?_, p2, p3, rfl, ?_⟩, rfl, rfl⟩
        · rw [rdRow_set, if_neg (Ne.symm hi)]; exact p1
        · rw [List.set_comm _ _ hi]
    | pure f' as hp => simp [Fp.of, hp, Fp.ok] at ok
    | eff b hb => rw [hb] at ok; simp [Fp.of, Fp.ok] at ok
  | pure f as hp =>
    have := pure_keeps hp _ _ _ e1
    subst this
    cases ak T b with
    | val v' =>
      simp only [doAct, Option.some.injEq, Prod.mk.injEq] at e2
      obtain ⟨rfl, rfl⟩ := e2
      exact ⟨_, rfl, e1, rfl, rfl⟩
    | load ag' i' v' e' f' n' =>
      obtain ⟨r2, rfl⟩ := do_load.1 e2
      exact ⟨h2, e2, e1, rfl, rfl⟩
    | store i' v' e' f' cs => simp [Fp.of, hp, Fp.ok] at ok
    | pure f' as' hp' =>
      have := pure_keeps hp' _ _ _ e2
      subst this
      exact ⟨h2, e2, e1, rfl, rfl⟩
    | eff b hb => rw [hb] at ok; simp [Fp.of, hp, Fp.ok] at ok
  | eff a ha =>
    rw [ha] at ok
    cases ak T b with
    | val v' =>
      simp only [doAct, Option.some.injEq, Prod.mk.injEq] at e2
      obtain ⟨rfl, rfl⟩ := e2
      exact ⟨_, rfl, e1, rfl, rfl⟩
    | load ag' i' v' e' f' n' =>
      obtain ⟨r2, rfl⟩ := do_load.1 e2
      simp only [Fp.of, Fp.ok] at ok
      refine ⟨h, do_load.2 ⟨?_, rfl⟩, e1, rfl, rfl⟩
      split at ok
      · rename_i x y ex ey
        rw [r2] at ey
        injection ey with ey
        rw [ex, AV.beq_eq _ _ ok, ey]
      · cases ok
    | store i' v' e' f' cs => simp [Fp.of, Fp.ok] at ok
    | pure f' as' hp' => simp [Fp.of, hp', Fp.ok] at ok
    | eff b hb => rw [hb] at ok; simp [Fp.ok] at ok

end Go.AM
end

section
/- Any order gives the same. -/
namespace Go.AM
open Go

variable {T : Tab} {rec : Ctx → AC → St → Option (Ex × St)} {cx : Ctx} {b0 : Nat} {M : Nat → Bool}

theorem cls0 {op : AOp} (h : cls M op = 0) {fr : List AV} {a : Act} (ha : act fr b0 op = some a) : ∃ v, a = .val v := by
  cases op <;> simp only [cls] at h <;> first | (cases h; done) | skip
  case callf f args => split at h <;> cases h
  all_goals
    simp only [act] at ha
    repeat' split at ha
    all_goals first
      | (cases ha; done)
      | (injection ha with ha; exact ⟨_, ha.symm⟩)
      | (obtain ⟨x, _, rfl⟩ := Option.map_eq_some_iff.1 ha; exact ⟨_, rfl⟩)

theorem val_keeps (v : AV) : Keeps T rec cx (.val v) := by
  intro h x h' hd
  simp only [doAct, Option.some.injEq, Prod.mk.injEq] at hd
  exact hd.2.symm

theorem cls1 (hM : ∀ f, M f = true → T.pure f = true) {op : AOp} (h : cls M op = 1) {fr : List AV} {a : Act} (ha : act fr b0 op = some a) : Keeps T rec cx a := by
  cases op <;> simp only [cls] at h <;> first | (cases h; done) | skip
  case load ag n x =>
    simp only [act] at ha
    split at ha
    · injection ha with ha; subst ha
      intro h x h' hd
      exact (do_load.1 hd).2
    · obtain ⟨x, _, rfl⟩ := Option.map_eq_some_iff.1 ha; exact val_keeps _
    · cases ha
  case b2s x =>
    simp only [act] at ha
    split at ha
    · injection ha with ha; subst ha; exact val_keeps _
    · obtain ⟨x, _, rfl⟩ := Option.map_eq_some_iff.1 ha; exact val_keeps _
    · split at ha
      · injection ha with ha; subst ha
        intro h x h' hd
        simp only [doAct] at hd
        obtain ⟨_, _, hd⟩ := bind_some' hd
        obtain ⟨_, _, hd⟩ := bind_some' hd
        injection hd with hd
        injection hd with _ hd
        exact hd.symm
      · cases ha
    · cases ha
  case lookup ks z ok x k =>
    simp only [act] at ha
    split at ha
    · split at ha
      · injection ha with ha; subst ha; exact val_keeps _
      · injection ha with ha; subst ha
        intro h x h' hd
        simp only [doAct] at hd
        split at hd
        · split at hd
          · obtain ⟨_, _, hd⟩ := bind_some' hd
            injection hd with hd
            injection hd with _ hd
            exact hd.symm
          · cases hd
        · cases hd
      · cases ha
    · cases ha
  case len k x =>
    simp only [act] at ha
    split at ha <;> first
      | (cases ha; done)
      | (injection ha with ha; subst ha; exact val_keeps _)
      | skip
    injection ha with ha; subst ha
    intro h x h' hd
    simp only [doAct] at hd
    split at hd
    · injection hd with hd
      injection hd with _ hd
      exact hd.symm
    · cases hd
  case callf f args =>
    split at h
    · rename_i hm
      simp only [act, Option.some.injEq] at ha
      subst ha
      exact pure_keeps (hM f hm)
    · cases h

theorem fp_nop_l (g : Fp) : Fp.ok .nop g = true := by cases g <;> rfl
theorem fp_nop_r (g : Fp) : Fp.ok g .nop = true := by cases g <;> rfl

/-- Two operations change places. -/
theorem swap (hM : ∀ f, M f = true → T.pure f = true) {o1 o2 : AO} (hap : o1.apart o2 = true) {st st1 st2 : St} {f1 f2 : Fp} (h1 : stepO T rec cx b0 o1 st = some (st1, f1)) (h2 : stepO T rec cx b0 o2 st1 = some (st2, f2))
    (hok : clash (cls M o1.op) (cls M o2.op) = false ∨ Fp.ok f1 f2 = true) : ∃ st1', stepO T rec cx b0 o2 st = some (st1', f2) ∧ stepO T rec cx b0 o1 st1' = some (st2, f1) := by
  obtain ⟨a1, a2, a3⟩ := AO.apart_spec hap
  have L1 : ∀ v, act (put st.fr o1.dst v) b0 o2.op = act st.fr b0 o2.op ∧ wanted (put st.fr o1.dst v) o2.guard = wanted st.fr o2.guard := fun v => put_looks a1
  have L2 : ∀ v, act (put st.fr o2.dst v) b0 o1.op = act st.fr b0 o1.op ∧ wanted (put st.fr o2.dst v) o1.guard = wanted st.fr o1.guard := fun v => put_looks a3
  have PC : ∀ u v, put (put st.fr o1.dst u) o2.dst v = put (put st.fr o2.dst v) o1.dst u := fun u v => put_comm a2
  unfold stepO at h1
  split at h1
  · rename_i hw1
    obtain ⟨ac1, e1, h1⟩ := bind_some' h1
    obtain ⟨⟨v1, hp1⟩, d1, h1⟩ := bind_some' h1
    injection h1 with h1
    injection h1 with hs1 hf1
    subst hs1; subst hf1
    unfold stepO at h2
    simp only [L1] at h2
    split at h2
    · rename_i hw2
      obtain ⟨ac2, e2, h2⟩ := bind_some' h2
      obtain ⟨⟨v2, hp2⟩, d2, h2⟩ := bind_some' h2
      injection h2 with h2
      injection h2 with hs2 hf2
      subst hs2; subst hf2
      have key : ∃ h1', doAct T rec cx st.h ac2 = some (v2, h1') ∧ doAct T rec cx h1' ac1 = some (v1, hp2) ∧ Fp.of T st.h h1' ac2 = Fp.of T hp1 hp2 ac2 ∧ Fp.of T h1' hp2 ac1 = Fp.of T st.h hp1 ac1 := by
        rcases hok with hc | hc
        · by_cases c0 : cls M o1.op = 0
          · obtain ⟨x, rfl⟩ := cls0 c0 e1
            exact comm_ok _ _ _ _ _ d1 d2 (fp_nop_l _)
          · by_cases c0' : cls M o2.op = 0
            · obtain ⟨x, rfl⟩ := cls0 c0' e2
              exact comm_ok _ _ _ _ _ d1 d2 (fp_nop_r _)
            · have hle : ∀ op : AOp, cls M op = 0 ∨ cls M op = 1 ∨ cls M op = 2 := by
                intro op
                cases op <;> simp [cls]
              have k1 : cls M o1.op = 1 := by
                rcases hle o1.op with h | h | h
                · exact absurd h c0
                · exact h
                · simp [clash, h, c0'] at hc
              have k2 : cls M o2.op = 1 := by
                rcases hle o2.op with h | h | h
                · exact absurd h c0'
                · exact h
                · simp [clash, h, c0] at hc
              exact keeps_comm (cls1 hM k1 e1) (cls1 hM k2 e2) d1 d2
        · exact comm_ok _ _ _ _ _ d1 d2 hc
      obtain ⟨h1', k1, k2, k3, k4⟩ := key
      refine ⟨{ st with fr := put st.fr o2.dst v2, h := h1' }, ?_, ?_⟩
      · simp only [stepO, hw2, e2, k1, Option.bind_eq_bind, Option.bind_some, k3]
      · simp only [stepO, L2, hw1, e1, k2, Option.bind_eq_bind, Option.bind_some, k4, PC]
    · rename_i hw2
      injection h2 with h2
      injection h2 with hs2 hf2
      subst hs2; subst hf2
      refine ⟨{ st with fr := put st.fr o2.dst (.tup []) }, by simp only [stepO, hw2], ?_⟩
      simp only [stepO, L2, hw1, e1, d1, Option.bind_eq_bind, Option.bind_some, PC]
    · cases h2
  · rename_i hw1
    injection h1 with h1
    injection h1 with hs1 hf1
    subst hs1; subst hf1
    unfold stepO at h2
    simp only [L1] at h2
    split at h2
    · rename_i hw2
      obtain ⟨ac2, e2, h2⟩ := bind_some' h2
      obtain ⟨⟨v2, hp2⟩, d2, h2⟩ := bind_some' h2
      injection h2 with h2
      injection h2 with hs2 hf2
      subst hs2; subst hf2
      refine ⟨{ st with fr := put st.fr o2.dst v2, h := hp2 }, ?_, ?_⟩
      · simp only [stepO, hw2, e2, d2, Option.bind_eq_bind, Option.bind_some]
      · simp only [stepO, L2, hw1, PC]
    · rename_i hw2
      injection h2 with h2
      injection h2 with hs2 hf2
      subst hs2; subst hf2
      refine ⟨{ st with fr := put st.fr o2.dst (.tup []) }, by simp only [stepO, hw2], ?_⟩
      simp only [stepO, L2, hw1, PC]
    · cases h2
  · cases h1

/-- Two operations of a region may change places. -/
def PairOk (M : Nat → Bool) (aos : List AO) (f : Nat → Fp) (i j : Nat) : Prop :=
  ∀ oi oj, aos[i]? = some oi → aos[j]? = some oj → oi.apart oj = true ∧ (clash (cls M oi.op) (cls M oj.op) = false ∨ Fp.ok (f i) (f j) = true)

theorem runs_front (hM : ∀ f, M f = true → T.pure f = true) {aos : List AO} {f : Nat → Fp} {i : Nat} {st' : St} : ∀ (A B : List Nat) (st : St), (∀ j ∈ A, PairOk M aos f j i) → Runs T rec cx b0 aos (A ++ i :: B) st f st' → Runs T rec cx b0 aos (i :: (A ++ B)) st f st'
  | [], B, st, _, h => h
  | j :: A, B, st, hp, h => by
    simp only [List.cons_append, Runs] at h
    obtain ⟨oj, st1, g1, g2, h⟩ := h
    obtain ⟨oi, st2, g3, g4, h⟩ := runs_front hM A B st1 (fun k hk => hp k (by simp [hk])) h
    obtain ⟨p1, p2⟩ := hp j (by simp) oj oi g1 g3
    obtain ⟨st3, s1, s2⟩ := swap hM p1 g2 g4 p2
    exact ⟨oi, st3, g3, s1, oj, st2, g1, s2, h⟩

/-- An order that keeps to what comes before what. -/
inductive VO (dep : Nat → Nat → Prop) : List Nat → List Nat → Prop
  | nil : VO dep [] []
  | cons {i : Nat} {A B L : List Nat} (h : ∀ j ∈ A, ¬ dep i j) (hl : VO dep (A ++ B) L) : VO dep (A ++ i :: B) (i :: L)

theorem runs_vo (hM : ∀ f, M f = true → T.pure f = true) {dep : Nat → Nat → Prop} {aos : List AO} {f : Nat → Fp} {st' : St} {R L : List Nat} (h : VO dep R L) : ∀ (st : St), R.Pairwise (fun i j => dep j i ∨ PairOk M aos f i j) → Runs T rec cx b0 aos R st f st' → Runs T rec cx b0 aos L st f st' := by
  induction h with
  | nil => intro st _ h; exact h
  | @cons i A B L hd hl ih =>
    intro st hp hr
    rw [List.pairwise_append] at hp
    obtain ⟨p1, p2, p3⟩ := hp
    rw [List.pairwise_cons] at p2
    have := runs_front hM A B st (fun j hj => by
      rcases p3 j hj i (by simp) with h | h
      · exact absurd h (hd j hj)
      · exact h) hr
    obtain ⟨o, st1, g1, g2, g3⟩ := this
    exact ⟨o, st1, g1, g2, ih st1 (List.pairwise_append.2 ⟨p1, p2.2, fun x hx y hy => p3 x hx y (by simp [hy])⟩) g3⟩

end Go.AM
end

section
/- More fuel answers no less. -/
namespace Go.AM
open Go

variable {T : Tab} {rec rec' : Ctx → AC → St → Option (Ex × St)} {cx : Ctx} {b0 : Nat}

def RLe (rec rec' : Ctx → AC → St → Option (Ex × St)) : Prop := ∀ cx ac st r, rec cx ac st = some r → rec' cx ac st = some r

theorem callF_mono (h : RLe rec rec') {f : Nat} {args : List AV} {hp : Heap} {r : AV × Heap} (hc : callF T rec cx f args hp = some r) : callF T rec' cx f args hp = some r := by
  unfold callF at hc ⊢
  cases hf : T.fn f with
  | none => rw [hf] at hc; cases hc
  | some af =>
    rw [hf] at hc
    cases af with
    | prim p => exact hc
    | code a =>
      simp only [] at hc ⊢
      split at hc
      · rename_i hw
        rw [if_pos hw]
        cases hr : rec (cx.enter a.mode hp.length) a.body ⟨args ++ List.replicate (a.ntmps - args.length) .any, [], hp⟩ with
        | none => rw [hr] at hc; cases hc
        | some x => rw [hr] at hc; rw [h _ _ _ _ hr]; exact hc
      · cases hc

theorem roundF_mono (h : RLe rec rec') {l : Nat} {args : List AV} {hp : Heap} {r : AV × Heap} (hc : roundF T rec cx l args hp = some r) : roundF T rec' cx l args hp = some r := by
  unfold roundF at hc ⊢
  split at hc
  case h_2 => cases hc
  case h_1 lid tmps hH =>
  split at hc
  case isFalse => cases hc
  case isTrue hwp =>
  rw [if_pos hwp]
  split at hc
  case h_2 => cases hc
  case h_1 ps asg body hT =>
  simp only [hT]
  split at hc
  case isFalse => cases hc
  case isTrue hlen =>
  rw [if_pos hlen]
  split at hc
  case h_2 => cases hc
  case h_1 st1 hasg =>
  simp only [h _ _ _ _ hasg]
  split at hc
  case h_2 => cases hc
  case h_1 lid1 tmps1 hH1 =>
  split at hc
  case h_2 => cases hc
  case h_1 ex st2 hbody =>
  simp only [h _ _ _ _ hbody]
  exact hc

theorem doAct_mono (h : RLe rec rec') {a : Act} {hp : Heap} {r : AV × Heap} (hc : doAct T rec cx hp a = some r) : doAct T rec' cx hp a = some r := by
  cases a <;> first
    | exact callF_mono h hc
    | exact roundF_mono h hc
    | exact hc

theorem runOpsF_mono (h : RLe rec rec') : ∀ (l : List AO) (st : St) (r : St × List Fp), runOpsF T rec cx b0 l st = some r → runOpsF T rec' cx b0 l st = some r
  | [], st, r, hc => hc
  | o :: l, st, r, hc => by
    simp only [runOpsF] at hc ⊢
    split at hc
    · obtain ⟨a, h1, hc⟩ := bind_some' hc
      obtain ⟨x, h2, hc⟩ := bind_some' hc
      obtain ⟨y, h3, hc⟩ := bind_some' hc
      simp only [h1, doAct_mono h h2, runOpsF_mono h l _ _ h3, Option.bind_eq_bind, Option.bind_some]
      exact hc
    · obtain ⟨y, h3, hc⟩ := bind_some' hc
      simp only [runOpsF_mono h l _ _ h3, Option.bind_eq_bind, Option.bind_some]
      exact hc
    · cases hc

theorem runOps_mono (h : RLe rec rec') : ∀ (l : List AO) (st r : St), runOps T rec cx b0 l st = some r → runOps T rec' cx b0 l st = some r
  | [], st, r, hc => hc
  | o :: l, st, r, hc => by
    simp only [runOps] at hc ⊢
    split at hc
    · obtain ⟨a, h1, hc⟩ := bind_some' hc
      obtain ⟨x, h2, hc⟩ := bind_some' hc
      simp only [h1, doAct_mono h h2, Option.bind_eq_bind, Option.bind_some]
      exact runOps_mono h l _ _ hc
    · exact runOps_mono h l _ _ hc
    · cases hc

theorem region_mono (h : RLe rec rec') {ops : List AO} {pre : List (List AV)} {u : List (Nat × Nat)} {st r : St} (hc : region T rec cx ops pre u st = some r) : region T rec' cx ops pre u st = some r := by
  unfold region at hc ⊢
  cases u with
  | nil => exact runOps_mono h _ _ _ hc
  | cons x xs =>
    obtain ⟨y, h1, hc⟩ := bind_some' hc
    simp only [runOpsF_mono h _ _ _ h1, Option.bind_eq_bind, Option.bind_some]
    exact hc

theorem evalF_mono (h : RLe rec rec') : RLe (evalF T rec) (evalF T rec') := by
  intro cx ac st r hc
  cases ac with
  | bad => exact hc
  | skip => exact hc
  | kill ts c => exact h _ _ _ _ hc
  | region ops pre u =>
    simp only [evalF, Option.map_eq_some_iff] at hc ⊢
    obtain ⟨x, h1, hc⟩ := hc
    exact ⟨x, region_mono h h1, hc⟩
  | seq a b =>
    simp only [evalF] at hc ⊢
    cases hr : rec cx a st with
    | none => rw [hr] at hc; cases hc
    | some x =>
      rw [hr] at hc
      rw [h _ _ _ _ hr]
      obtain ⟨ex, st1⟩ := x
      cases ex with
      | nrm => exact h _ _ _ _ hc
      | exit id => exact hc
      | ret => exact hc
  | cond c a b =>
    simp only [evalF] at hc ⊢
    split at hc
    · exact h _ _ _ _ hc
    · cases hc
  | block id c =>
    simp only [evalF] at hc ⊢
    cases hr : rec cx c st with
    | none => rw [hr] at hc; cases hc
    | some x => rw [hr] at hc; rw [h _ _ _ _ hr]; exact hc
  | loop c =>
    simp only [evalF] at hc ⊢
    cases hr : rec cx c st with
    | none => rw [hr] at hc; cases hc
    | some x =>
      rw [hr] at hc
      rw [h _ _ _ _ hr]
      obtain ⟨ex, st1⟩ := x
      cases ex with
      | nrm => exact h _ _ _ _ hc
      | exit id => exact hc
      | ret => exact hc
  | exit id => exact hc
  | ret => exact hc
  | rangef lid f =>
    simp only [evalF] at hc ⊢
    split at hc
    · split at hc
      · rename_i hcall
        simp only [callF_mono h hcall]
        exact hc
      · cases hc
    · split at hc
      · split at hc
        · rename_i hcall
          simp only [callF_mono h hcall]
          exact hc
        · cases hc
      · cases hc
    · cases hc

theorem E_succ (T : Tab) : ∀ k, RLe (E T k) (E T (k + 1))
  | 0 => fun _ _ _ _ h => by simp [E] at h
  | k + 1 => evalF_mono (E_succ T k)

theorem E_mono (T : Tab) {k k' : Nat} (h : k ≤ k') : RLe (E T k) (E T k') := by
  induction h with
  | refl => exact fun _ _ _ _ h => h
  | step _ ih => exact fun cx ac st r hr => E_succ T _ cx ac st r (ih cx ac st r hr)

end Go.AM
end

section
/- The evaluator without fuel. -/
namespace Go.AM
open Go

open Classical in
/-- What the evaluator answers with enough fuel. -/
noncomputable def ev (T : Tab) (cx : Ctx) (ac : AC) (st : St) : Option (Ex × St) := if h : ∃ r, ∃ k, E T k cx ac st = some r then some (Classical.choose h) else none

theorem ev_some {T : Tab} {cx : Ctx} {ac : AC} {st : St} {r : Ex × St} : ev T cx ac st = some r ↔ ∃ k, E T k cx ac st = some r := by
  constructor
  · intro h
    unfold ev at h
    split at h
    · rename_i hx
      injection h with h
      rw [← h]
      exact Classical.choose_spec hx
    · cases h
  · rintro ⟨k, hk⟩
    have hx : ∃ r, ∃ k, E T k cx ac st = some r := ⟨r, k, hk⟩
    obtain ⟨k', hk'⟩ := Classical.choose_spec hx
    unfold ev
    rw [dif_pos hx]
    have h1 := E_mono T (Nat.le_max_left k k') _ _ _ _ hk
    have h2 := E_mono T (Nat.le_max_right k k') _ _ _ _ hk'
    rw [h1] at h2
    exact h2.symm

theorem E_le_ev (T : Tab) (k : Nat) : RLe (E T k) (ev T) := fun _ _ _ _ h => ev_some.2 ⟨k, h⟩

variable {T : Tab} {cx : Ctx} {b0 : Nat}

theorem callF_cont {f : Nat} {args : List AV} {hp : Heap} {r : AV × Heap} (hc : callF T (ev T) cx f args hp = some r) : ∃ k, callF T (E T k) cx f args hp = some r := by
  unfold callF at hc
  cases hf : T.fn f with
  | none => rw [hf] at hc; cases hc
  | some af =>
    rw [hf] at hc
    cases af with
    | prim p => exact ⟨0, by unfold callF; rw [hf]; exact hc⟩
    | code a =>
      simp only [] at hc
      split at hc
      · rename_i hw
        cases hr : ev T (cx.enter a.mode hp.length) a.body ⟨args ++ List.replicate (a.ntmps - args.length) .any, [], hp⟩ with
        | none => rw [hr] at hc; cases hc
        | some x =>
          obtain ⟨k, hk⟩ := ev_some.1 hr
          refine ⟨k, ?_⟩
          unfold callF
          rw [hf]
          simp only []
          rw [if_pos hw, hk]
          rw [hr] at hc
          exact hc
      · cases hc

theorem roundF_cont {l : Nat} {args : List AV} {hp : Heap} {r : AV × Heap} (hc : roundF T (ev T) cx l args hp = some r) : ∃ k, roundF T (E T k) cx l args hp = some r := by
  unfold roundF at hc
  split at hc
  case h_2 => cases hc
  case h_1 lid tmps hH =>
  split at hc
  case isFalse => cases hc
  case isTrue hwp =>
  split at hc
  case h_2 => cases hc
  case h_1 ps asg body hT =>
  split at hc
  case isFalse => cases hc
  case isTrue hlen =>
  split at hc
  case h_2 => cases hc
  case h_1 st1 hasg =>
  split at hc
  case h_2 => cases hc
  case h_1 lid1 tmps1 hH1 =>
  split at hc
  case h_2 => cases hc
  case h_1 ex st2 hbody =>
  obtain ⟨k1, h1⟩ := ev_some.1 hasg
  obtain ⟨k2, h2⟩ := ev_some.1 hbody
  refine ⟨max k1 k2, ?_⟩
  unfold roundF
  simp only [hH, hwp, hT, hlen, if_true, E_mono T (Nat.le_max_left k1 k2) _ _ _ _ h1, hH1, E_mono T (Nat.le_max_right k1 k2) _ _ _ _ h2]
  exact hc

theorem doAct_cont {a : Act} {hp : Heap} {r : AV × Heap} (hc : doAct T (ev T) cx hp a = some r) : ∃ k, doAct T (E T k) cx hp a = some r := by
  cases a <;> first
    | exact callF_cont hc
    | exact roundF_cont hc
    | exact ⟨0, hc⟩

theorem runOpsF_cont : ∀ (l : List AO) (st : St) (r : St × List Fp), runOpsF T (ev T) cx b0 l st = some r → ∃ k, runOpsF T (E T k) cx b0 l st = some r
  | [], st, r, hc => ⟨0, hc⟩
  | o :: l, st, r, hc => by
    simp only [runOpsF] at hc ⊢
    split at hc
    · obtain ⟨a, h1, hc⟩ := bind_some' hc
      obtain ⟨x, h2, hc⟩ := bind_some' hc
      obtain ⟨y, h3, hc⟩ := bind_some' hc
      obtain ⟨k1, h2⟩ := doAct_cont h2
      obtain ⟨k2, h3⟩ := runOpsF_cont l _ _ h3
      refine ⟨max k1 k2, ?_⟩
      simp only [h1, doAct_mono (E_mono T (Nat.le_max_left k1 k2)) h2, runOpsF_mono (E_mono T (Nat.le_max_right k1 k2)) l _ _ h3, Option.bind_eq_bind, Option.bind_some]
      exact hc
    · obtain ⟨y, h3, hc⟩ := bind_some' hc
      obtain ⟨k, h3⟩ := runOpsF_cont l _ _ h3
      exact ⟨k, by simp only [h3, Option.bind_eq_bind, Option.bind_some]; exact hc⟩
    · cases hc

theorem runOps_cont : ∀ (l : List AO) (st r : St), runOps T (ev T) cx b0 l st = some r → ∃ k, runOps T (E T k) cx b0 l st = some r
  | [], st, r, hc => ⟨0, hc⟩
  | o :: l, st, r, hc => by
    simp only [runOps] at hc ⊢
    split at hc
    · obtain ⟨a, h1, hc⟩ := bind_some' hc
      obtain ⟨x, h2, hc⟩ := bind_some' hc
      obtain ⟨k1, h2⟩ := doAct_cont h2
      obtain ⟨k2, h3⟩ := runOps_cont l _ _ hc
      refine ⟨max k1 k2, ?_⟩
      simp only [h1, doAct_mono (E_mono T (Nat.le_max_left k1 k2)) h2, Option.bind_eq_bind, Option.bind_some]
      exact runOps_mono (E_mono T (Nat.le_max_right k1 k2)) l _ _ h3
    · exact runOps_cont l _ _ hc
    · cases hc

theorem region_cont {ops : List AO} {pre : List (List AV)} {u : List (Nat × Nat)} {st r : St} (hc : region T (ev T) cx ops pre u st = some r) : ∃ k, region T (E T k) cx ops pre u st = some r := by
  unfold region at hc ⊢
  cases u with
  | nil => exact runOps_cont _ _ _ hc
  | cons x xs =>
    obtain ⟨y, h1, hc⟩ := bind_some' hc
    obtain ⟨k, h1⟩ := runOpsF_cont _ _ _ h1
    exact ⟨k, by simp only [h1, Option.bind_eq_bind, Option.bind_some]; exact hc⟩

theorem evalF_cont {ac : AC} {st : St} {r : Ex × St} (hc : evalF T (ev T) cx ac st = some r) : ∃ k, evalF T (E T k) cx ac st = some r := by
  have two : ∀ {cx1 cx2 : Ctx} {a1 a2 : AC} {s1 s2 : St} {r1 r2 : Ex × St}, ev T cx1 a1 s1 = some r1 → ev T cx2 a2 s2 = some r2 → ∃ k, E T k cx1 a1 s1 = some r1 ∧ E T k cx2 a2 s2 = some r2 := by
    intro cx1 cx2 a1 a2 s1 s2 r1 r2 h1 h2
    obtain ⟨k1, h1⟩ := ev_some.1 h1
    obtain ⟨k2, h2⟩ := ev_some.1 h2
    exact ⟨max k1 k2, E_mono T (Nat.le_max_left _ _) _ _ _ _ h1, E_mono T (Nat.le_max_right _ _) _ _ _ _ h2⟩
  cases ac with
  | bad => exact ⟨0, hc⟩
  | skip => exact ⟨0, hc⟩
  | kill ts c => exact ev_some.1 hc
  | region ops pre u =>
    simp only [evalF, Option.map_eq_some_iff] at hc ⊢
    obtain ⟨x, h1, hc⟩ := hc
    obtain ⟨k, h1⟩ := region_cont h1
    exact ⟨k, x, h1, hc⟩
  | seq a b =>
    simp only [evalF] at hc ⊢
    cases hr : ev T cx a st with
    | none => rw [hr] at hc; cases hc
    | some x =>
      rw [hr] at hc
      obtain ⟨ex, st1⟩ := x
      cases ex with
      | nrm => obtain ⟨k, h1, h2⟩ := two hr hc; exact ⟨k, by simp only [h1]; exact h2⟩
      | exit id => obtain ⟨k, h1⟩ := ev_some.1 hr; exact ⟨k, by simp only [h1]; exact hc⟩
      | ret => obtain ⟨k, h1⟩ := ev_some.1 hr; exact ⟨k, by simp only [h1]; exact hc⟩
  | cond c a b =>
    simp only [evalF] at hc ⊢
    split at hc
    · exact ev_some.1 hc
    · cases hc
  | block id c =>
    simp only [evalF] at hc ⊢
    cases hr : ev T cx c st with
    | none => rw [hr] at hc; cases hc
    | some x => obtain ⟨k, h1⟩ := ev_some.1 hr; rw [hr] at hc; exact ⟨k, by simp only [h1]; exact hc⟩
  | loop c =>
    simp only [evalF] at hc ⊢
    cases hr : ev T cx c st with
    | none => rw [hr] at hc; cases hc
    | some x =>
      rw [hr] at hc
      obtain ⟨ex, st1⟩ := x
      cases ex with
      | nrm => obtain ⟨k, h1, h2⟩ := two hr hc; exact ⟨k, by simp only [h1]; exact h2⟩
      | exit id => obtain ⟨k, h1⟩ := ev_some.1 hr; exact ⟨k, by simp only [h1]; exact hc⟩
      | ret => obtain ⟨k, h1⟩ := ev_some.1 hr; exact ⟨k, by simp only [h1]; exact hc⟩
  | exit id => exact ⟨0, hc⟩
  | ret => exact ⟨0, hc⟩
  | rangef lid f =>
    simp only [evalF] at hc ⊢
    split at hc
    · split at hc
      · rename_i hcall
        obtain ⟨k, h1⟩ := callF_cont hcall
        exact ⟨k, by simp only [h1]; exact hc⟩
      · cases hc
    · split at hc
      · split at hc
        · rename_i hcall
          obtain ⟨k, h1⟩ := callF_cont hcall
          exact ⟨k, by simp only [h1]; exact hc⟩
        · cases hc
      · cases hc
    · cases hc

/-- The evaluator without fuel is its own step. -/
theorem ev_eq (T : Tab) (cx : Ctx) (ac : AC) (st : St) : ev T cx ac st = evalF T (ev T) cx ac st := by
  cases h : evalF T (ev T) cx ac st with
  | some r =>
    obtain ⟨k, hk⟩ := evalF_cont h
    exact ev_some.2 ⟨k + 1, hk⟩
  | none =>
    cases h2 : ev T cx ac st with
    | none => rfl
    | some r =>
      obtain ⟨k, hk⟩ := ev_some.1 h2
      cases k with
      | zero => simp [E] at hk
      | succ k =>
        have := evalF_mono (E_le_ev T k) _ _ _ _ hk
        rw [h] at this
        cases this

end Go.AM
end
