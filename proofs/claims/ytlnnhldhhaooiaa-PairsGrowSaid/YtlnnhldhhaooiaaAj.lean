import Derived.Test.YtlnnhldhhaooiaaAb
import Derived.Laws.BitsLemmas

set_option linter.unusedVariables false
set_option linter.unusedSimpArgs false
set_option linter.unusedSectionVars false
set_option linter.unnecessarySimpa false

section
/- Proofs about the evaluator: what code comes to. -/
namespace Go.AM
open Go

/-- There is one, and of it k holds. -/
def OM {α : Type} (o : Option α) (k : α → Prop) : Prop := match o with | some v => k v | none => False

theorem OM_some {α : Type} {v : α} {k : α → Prop} : OM (some v) k ↔ k v := Iff.rfl
theorem OM_none {α : Type} {k : α → Prop} : OM none k ↔ False := Iff.rfl
@[congr] theorem OM_congr {α : Type} {o o' : Option α} {k : α → Prop} (h : o = o') : OM o k = OM o' k := by rw [h]

/-- By a truth value. -/
def CB (t : Bool) (a b : Prop) : Prop := if t = true then a else b
theorem CB_true {a b : Prop} : CB true a b ↔ a := by simp [CB]
theorem CB_false {a b : Prop} : CB false a b ↔ b := by simp [CB]
@[congr] theorem CB_congr {t t' : Bool} {a b : Prop} (h : t = t') : CB t a b = CB t' a b := by rw [h]
def CM (v : AV) (a b : Prop) : Prop := match v with | .bool t => CB t a b | _ => False
theorem CM_bool {t : Bool} {a b : Prop} : CM (.bool t) a b ↔ CB t a b := Iff.rfl
@[congr] theorem CM_congr {v v' : AV} {a b : Prop} (h : v = v') : CM v a b = CM v' a b := by rw [h]

/-- The code comes to an end, and of the end Q holds. -/
def R (T : Tab) (cx : Ctx) (c : AC) (st : St) (Q : Ex → St → Prop) : Prop := OM (ev T cx c st) fun r => Q r.1 r.2

/-- What is still to be done. -/
inductive Kont where
  | seq (b : AC)
  | block (id : Nat)

/-- What comes of a way to leave. -/
def RE (T : Tab) (cx : Ctx) (Q : Ex → St → Prop) : List Kont → Ex → St → Prop
  | [], ex, st => Q ex st
  | .seq b :: K, ex, st => match ex with
    | .nrm => R T cx b st (RE T cx Q K)
    | ex => RE T cx Q K ex st
  | .block id :: K, ex, st => match ex with
    | .exit i => if i = id then RE T cx Q K .nrm st else RE T cx Q K (.exit i) st
    | ex => RE T cx Q K ex st

def RK (T : Tab) (cx : Ctx) (Q : Ex → St → Prop) (c : AC) (K : List Kont) (st : St) : Prop := R T cx c st (RE T cx Q K)

/-- Of a region's operations. -/
def RO (T : Tab) (cx : Ctx) (Q : Ex → St → Prop) (K : List Kont) (b0 : Nat) (ops : List AO) (st : St) : Prop :=
  OM (runOps T (ev T) cx b0 ops st) (RE T cx Q K .nrm)

variable {T : Tab} {cx : Ctx} {Q Q' : Ex → St → Prop} {st : St} {K : List Kont}

@[congr] theorem RK_congr {c : AC} {st' : St} (h : st = st') : RK T cx Q c K st = RK T cx Q c K st' := by rw [h]
@[congr] theorem RE_congr {ex : Ex} {st' : St} (h : st = st') : RE T cx Q K ex st = RE T cx Q K ex st' := by rw [h]
@[congr] theorem RO_congr {b0 b0' : Nat} {ops ops' : List AO} {st' : St} (h : ops = ops') (h' : st = st') (h0 : b0 = b0') : RO T cx Q K b0 ops st = RO T cx Q K b0' ops' st' := by rw [h, h', h0]

theorem R_some {c : AC} : R T cx c st Q ↔ ∃ ex st', ev T cx c st = some (ex, st') ∧ Q ex st' := by
  unfold R OM
  constructor
  · intro h
    split at h
    · rename_i r he; exact ⟨r.1, r.2, he, h⟩
    · exact h.elim
  · rintro ⟨ex, st', he, h⟩
    rw [he]; exact h

theorem R.mono {c : AC} (h : R T cx c st Q) (hq : ∀ ex st', Q ex st' → Q' ex st') : R T cx c st Q' := by
  obtain ⟨ex, st', h1, h2⟩ := R_some.1 h
  exact R_some.2 ⟨ex, st', h1, hq _ _ h2⟩

theorem R_RK {c : AC} : R T cx c st Q ↔ RK T cx Q c [] st := Iff.rfl

/-- A piece of code by what was shown of it. -/
theorem RK.by {c : AC} {P : Ex → St → Prop} (h : R T cx c st P) (hq : ∀ ex st', P ex st' → RE T cx Q K ex st') : RK T cx Q c K st := h.mono hq

theorem RE_nil {ex : Ex} : RE T cx Q [] ex st ↔ Q ex st := Iff.rfl
theorem RE_seq {b : AC} : RE T cx Q (.seq b :: K) .nrm st ↔ RK T cx Q b K st := Iff.rfl
theorem RE_seq_exit {b : AC} {id : Nat} : RE T cx Q (.seq b :: K) (.exit id) st ↔ RE T cx Q K (.exit id) st := Iff.rfl
theorem RE_seq_ret {b : AC} : RE T cx Q (.seq b :: K) .ret st ↔ RE T cx Q K .ret st := Iff.rfl
theorem RE_block {id : Nat} : RE T cx Q (.block id :: K) .nrm st ↔ RE T cx Q K .nrm st := Iff.rfl
theorem RE_block_ret {id : Nat} : RE T cx Q (.block id :: K) .ret st ↔ RE T cx Q K .ret st := Iff.rfl
theorem RE_block_exit {id i : Nat} : RE T cx Q (.block id :: K) (.exit i) st ↔ if i = id then RE T cx Q K .nrm st else RE T cx Q K (.exit i) st := Iff.rfl

theorem RK_skip : RK T cx Q .skip K st ↔ RE T cx Q K .nrm st := by unfold RK R; rw [ev_eq]; rfl
theorem RK_ret : RK T cx Q .ret K st ↔ RE T cx Q K .ret st := by unfold RK R; rw [ev_eq]; rfl
theorem RK_exit {id : Nat} : RK T cx Q (.exit id) K st ↔ RE T cx Q K (.exit id) st := by unfold RK R; rw [ev_eq]; rfl
theorem RK_seq {a b : AC} : RK T cx Q (.seq a b) K st ↔ RK T cx Q a (.seq b :: K) st := by
  unfold RK R
  rw [ev_eq]
  simp only [evalF]
  cases h : ev T cx a st with
  | none => simp [OM]
  | some x =>
    obtain ⟨ex, st1⟩ := x
    cases ex <;> rfl
theorem RK_block {id : Nat} {a : AC} : RK T cx Q (.block id a) K st ↔ RK T cx Q a (.block id :: K) st := by
  unfold RK R
  rw [ev_eq]
  simp only [evalF]
  cases h : ev T cx a st with
  | none => simp [OM]
  | some x =>
    obtain ⟨ex, st1⟩ := x
    cases ex <;> simp [OM, RE]
    split <;> rfl
theorem RK_cond {c : Opd} {a b : AC} : RK T cx Q (.cond c a b) K st ↔ CM (opd st.fr c) (RK T cx Q a K st) (RK T cx Q b K st) := by
  unfold RK R
  rw [ev_eq]
  simp only [evalF, CM]
  cases opd st.fr c <;> simp [OM]
  rename_i t
  cases t <;> simp [CB]
theorem R_loop {c : AC} : R T cx (.loop c) st Q ↔ RK T cx Q c [.seq (.loop c)] st := by
  unfold RK R
  rw [ev_eq]
  simp only [evalF]
  cases h : ev T cx c st with
  | none => simp [OM]
  | some x =>
    obtain ⟨ex, st1⟩ := x
    cases ex <;> rfl
theorem RK_region {ops : List AO} {pre : List (List AV)} : RK T cx Q (.region ops pre []) K st ↔ RO T cx Q K st.h.length ops { st with h := st.h ++ pre.map fun z => .cells 0 [z] } := by
  unfold RK R RO
  rw [ev_eq]
  simp only [evalF, region]
  cases runOps T (ev T) cx st.h.length ops { st with h := st.h ++ pre.map fun z => .cells 0 [z] } <;> rfl
theorem RK_region0 {ops : List AO} : RK T cx Q (.region ops [] []) K st ↔ RO T cx Q K st.h.length ops st := by
  rw [RK_region]; simp

/-- A loop, by an invariant that counts down. -/
theorem R_loopI {c : AC} (I : Nat → St → Prop) (h : ∀ n st, I n st → R T cx c st fun ex st' => match ex with | .nrm => ∃ m, m < n ∧ I m st' | ex => Q ex st') {n : Nat} (h0 : I n st) : R T cx (.loop c) st Q := by
  induction n using Nat.strongRecOn generalizing st with
  | _ n ih =>
    rw [R_loop]
    refine (h n st h0).mono fun ex st' hq => ?_
    cases ex with
    | nrm =>
      obtain ⟨m, hm, hi⟩ := hq
      exact ih m hm hi
    | exit id => exact hq
    | ret => exact hq

variable {b0 : Nat} {fr : List AV} {ds : List Nat} {h : Heap}

theorem RO_nil : RO T cx Q K b0 [] st ↔ RE T cx Q K .nrm st := Iff.rfl

theorem RO_cons {o : AO} {rest : List AO} : RO T cx Q K b0 (o :: rest) st ↔
    OM (wanted st.fr o.guard) fun b => if b = true then OM (act st.fr b0 o.op) fun a => OM (doAct T (ev T) cx st.h a) fun r => RO T cx Q K b0 rest { st with fr := put st.fr o.dst r.1, h := r.2 }
      else RO T cx Q K b0 rest { st with fr := put st.fr o.dst (.tup []) } := by
  unfold RO
  simp only [runOps]
  cases wanted st.fr o.guard with
  | none => simp [OM]
  | some b =>
    cases b with
    | false => simp [OM]
    | true =>
      simp only [Option.bind_eq_bind]
      cases act st.fr b0 o.op with
      | none => simp [OM]
      | some a =>
        simp only [Option.bind_some, OM, if_true]
        cases doAct T (ev T) cx st.h a with
        | none => simp
        | some x => obtain ⟨v, h⟩ := x; simp

/-! ### Frames -/
/-- A frame of N places. -/
def mkfr (N : Nat) (f : Nat → AV) : List AV := (List.range N).map f
def upd' (f : Nat → AV) (d : Nat) (v : AV) : Nat → AV := fun n => if n = d then v else f n

theorem put_fr {N : Nat} {f : Nat → AV} {d : Nat} {v : AV} : (mkfr N f).set d v = mkfr N (upd' f d v) := by
  apply List.ext_getElem?
  intro k
  unfold mkfr upd'
  by_cases e : d = k
  · subst e
    by_cases hl : d < N
    · rw [List.getElem?_set_self (by simpa using hl)]; simp [hl]
    · rw [List.getElem?_eq_none (by simp; omega), List.getElem?_eq_none (by simp; omega)]
  · rw [List.getElem?_set_ne e]
    by_cases hl : k < N
    · simp [hl, Ne.symm e]
    · rw [List.getElem?_eq_none (by simp; omega), List.getElem?_eq_none (by simp; omega)]

theorem opd_c {fr : List AV} {v : AV} : opd fr (.c v) = v := by simp [opd]
theorem opd_t {N : Nat} {f : Nat → AV} {n : Nat} (h : n < N) : opd (mkfr N f) (.t n) = f n := by
  simp [opd, mkfr, h]
theorem upd_eq' {f : Nat → AV} {d : Nat} {v : AV} : upd' f d v d = v := by simp [upd']
theorem upd_ne {f : Nat → AV} {d n : Nat} {v : AV} (h : n ≠ d) : upd' f d v n = f n := by simp [upd', h]
theorem fr_any {l : List AV} {N : Nat} (h : l.length = N) : l = mkfr N (fun n => l.getD n .any) := by
  apply List.ext_getElem?
  intro k
  unfold mkfr
  by_cases hl : k < N
  · simp [hl, show k < l.length by omega]
  · rw [List.getElem?_eq_none (by omega), List.getElem?_eq_none (by simp; omega)]

/-- By a guard's value. -/
def GM (v : AV) (w : Bool) (a b : Prop) : Prop := match v with | .bool t => CB (t == w) a b | .tup _ => b | _ => False
@[congr] theorem GM_congr {v v' : AV} {w : Bool} {a b : Prop} (h : v = v') : GM v w a b = GM v' w a b := by rw [h]
theorem GM_t {t : Bool} {a b : Prop} : GM (.bool t) true a b ↔ CB t a b := by cases t <;> rfl
theorem GM_f {t : Bool} {a b : Prop} : GM (.bool t) false a b ↔ CB t b a := by cases t <;> rfl
theorem GM_tup {l : List AV} {w : Bool} {a b : Prop} : GM (.tup l) w a b ↔ b := Iff.rfl

/-! ### Operations -/
section
variable {d : Nat} {x y z' : Opd} {rest : List AO}

/-- A guarded operation, by its guard. -/
theorem RO_guard {g : Nat} {w : Bool} {d : Nat} {op : AOp} : RO T cx Q K b0 (⟨some d, op, some (g, w)⟩ :: rest) ⟨fr, ds, h⟩ ↔
    GM (opd fr (.t g)) w (RO T cx Q K b0 (⟨some d, op, none⟩ :: rest) ⟨fr, ds, h⟩) (RO T cx Q K b0 rest ⟨fr.set d (.tup []), ds, h⟩) := by
  rw [RO_cons, RO_cons]
  unfold GM
  show OM (match opd fr (.t g) with | .bool b => some (b == w) | .tup _ => some false | _ => none) _ ↔ _
  cases opd fr (.t g) <;> rfl

theorem RO_act {op : AOp} {a : Act} (ha : act fr b0 op = some a) : RO T cx Q K b0 (⟨some d, op, none⟩ :: rest) ⟨fr, ds, h⟩ ↔ OM (doAct T (ev T) cx h a) fun r => RO T cx Q K b0 rest ⟨fr.set d r.1, ds, r.2⟩ := by
  rw [RO_cons]; simp only [wanted, ha, put, OM, if_true]
theorem RO_actn {op : AOp} {a : Act} (ha : act fr b0 op = some a) : RO T cx Q K b0 (⟨none, op, none⟩ :: rest) ⟨fr, ds, h⟩ ↔ OM (doAct T (ev T) cx h a) fun r => RO T cx Q K b0 rest ⟨fr, ds, r.2⟩ := by
  rw [RO_cons]; simp only [wanted, ha, put, OM, if_true]

theorem RO_opt {op : AOp} (o : Option AV) (ha : act fr b0 op = o.map .val) : RO T cx Q K b0 (⟨some d, op, none⟩ :: rest) ⟨fr, ds, h⟩ ↔ OM o fun v => RO T cx Q K b0 rest ⟨fr.set d v, ds, h⟩ := by
  cases o with
  | none => rw [RO_cons]; simp [wanted, ha, OM]
  | some v => rw [RO_act (a := .val v) ha]; rfl

theorem RO_mv : RO T cx Q K b0 (⟨some d, .mv x, none⟩ :: rest) ⟨fr, ds, h⟩ ↔ RO T cx Q K b0 rest ⟨fr.set d (opd fr x), ds, h⟩ := RO_opt (op := .mv x) (some (opd fr x)) rfl

def pickM (c a b : AV) : Option AV := match c with | .bool t => some (if t then a else b) | _ => none
theorem RO_pick {c : Opd} : RO T cx Q K b0 (⟨some d, .pick c x y, none⟩ :: rest) ⟨fr, ds, h⟩ ↔ OM (pickM (opd fr c) (opd fr x) (opd fr y)) fun v => RO T cx Q K b0 rest ⟨fr.set d v, ds, h⟩ :=
  RO_opt (op := .pick c x y) (pickM (opd fr c) (opd fr x) (opd fr y)) (by simp only [act, pickM]; cases opd fr c <;> rfl)

def binM (op : BinOp) (a b : AV) : Option AV := match a with | .bool _ => none | a => bin op a b
theorem RO_bin {op : BinOp} : RO T cx Q K b0 (⟨some d, .bin op x y, none⟩ :: rest) ⟨fr, ds, h⟩ ↔ OM (binM op (opd fr x) (opd fr y)) fun v => RO T cx Q K b0 rest ⟨fr.set d v, ds, h⟩ :=
  RO_opt (op := .bin op x y) (binM op (opd fr x) (opd fr y)) (by simp only [act, binM]; cases opd fr x <;> rfl)

def binbM (op : BinOp) (a b : AV) : Option AV := match a, b with | .bool a, .bool b => bin op (.bool a) (.bool b) | _, _ => none
theorem RO_binb {op : BinOp} : RO T cx Q K b0 (⟨some d, .binb op x y, none⟩ :: rest) ⟨fr, ds, h⟩ ↔ OM (binbM op (opd fr x) (opd fr y)) fun v => RO T cx Q K b0 rest ⟨fr.set d v, ds, h⟩ :=
  RO_opt (op := .binb op x y) (binbM op (opd fr x) (opd fr y)) (by simp only [act, binbM]; cases opd fr x <;> cases opd fr y <;> rfl)

theorem RO_un {op : UnOp} : RO T cx Q K b0 (⟨some d, .un op x, none⟩ :: rest) ⟨fr, ds, h⟩ ↔ OM (un op (opd fr x)) fun v => RO T cx Q K b0 rest ⟨fr.set d v, ds, h⟩ :=
  RO_opt (op := .un op x) (un op (opd fr x)) rfl

def lenM (a : AV) : Option AV := match a with | .nils => some (.int .i64 0) | .fs es _ => some (.int .i64 es.length) | .row _ _ _ n _ _ => some (.int .i64 n) | _ => none
theorem RO_len : RO T cx Q K b0 (⟨some d, .len 1 x, none⟩ :: rest) ⟨fr, ds, h⟩ ↔ OM (lenM (opd fr x)) fun v => RO T cx Q K b0 rest ⟨fr.set d v, ds, h⟩ :=
  RO_opt (op := .len 1 x) (lenM (opd fr x)) (by simp only [act, lenM]; cases opd fr x <;> rfl)

def ixsM (z : Nat) (a i : AV) : Option AV :=
  match act [] 0 (.ixs z (.c a) (.c i)) with | some (.val v) => some v | _ => none
theorem RO_ixs {z : Nat} {i : Opd} : RO T cx Q K b0 (⟨some d, .ixs z x i, none⟩ :: rest) ⟨fr, ds, h⟩ ↔ OM (ixsM z (opd fr x) (opd fr i)) fun v => RO T cx Q K b0 rest ⟨fr.set d v, ds, h⟩ :=
  RO_opt (op := .ixs z x i) (ixsM z (opd fr x) (opd fr i)) (by
    simp only [act, ixsM, opd_c]
    cases opd fr x <;> cases opd fr i <;> try rfl
    · simp only []
      split
      · split
        · split <;> rfl
        · rfl
      · rfl
    · simp only []
      split <;> rfl)

def fldM (off : Nat) (a : AV) : Option AV := match a with | .ref i v e f => some (.ref i v e (f + off)) | .fptr cs => if off ≤ cs.length then some (.fptr (cs.drop off)) else none | _ => none
theorem RO_fld {off : Nat} : RO T cx Q K b0 (⟨some d, .fld off x, none⟩ :: rest) ⟨fr, ds, h⟩ ↔ OM (fldM off (opd fr x)) fun v => RO T cx Q K b0 rest ⟨fr.set d v, ds, h⟩ :=
  RO_opt (op := .fld off x) (fldM off (opd fr x)) (by
    simp only [act, fldM]
    cases opd fr x <;> try rfl
    simp only []
    split <;> rfl)

def partM (ag : Bool) (off n : Nat) (a : AV) : Option AV := match a with | .agg cs => partOf ag off n cs | _ => none
theorem RO_part {ag : Bool} {off n : Nat} : RO T cx Q K b0 (⟨some d, .part ag off n x, none⟩ :: rest) ⟨fr, ds, h⟩ ↔ OM (partM ag off n (opd fr x)) fun v => RO T cx Q K b0 rest ⟨fr.set d v, ds, h⟩ :=
  RO_opt (op := .part ag off n x) (partM ag off n (opd fr x)) (by simp only [act, partM]; cases opd fr x <;> rfl)

def ixaM (len z : Nat) (a i : AV) : Option AV :=
  match a, i with
  | .ref i v e f, .int _ k => if 0 ≤ k ∧ k < len then some (.ref i v e (f + k.toNat * z)) else none
  | .fptr cs, .int _ k => if 0 ≤ k ∧ k < len ∧ k.toNat * z ≤ cs.length then some (.fptr (cs.drop (k.toNat * z))) else none
  | _, _ => none
theorem RO_ixa {len z : Nat} {i : Opd} : RO T cx Q K b0 (⟨some d, .ixa len z x i, none⟩ :: rest) ⟨fr, ds, h⟩ ↔ OM (ixaM len z (opd fr x) (opd fr i)) fun v => RO T cx Q K b0 rest ⟨fr.set d v, ds, h⟩ :=
  RO_opt (op := .ixa len z x i) (ixaM len z (opd fr x) (opd fr i)) (by
    simp only [act, ixaM]
    cases opd fr x <;> cases opd fr i <;> try rfl
    all_goals
      simp only []
      split <;> rfl)

def ixvM (ag : Bool) (len z : Nat) (a i : AV) : Option AV :=
  match a, i with
  | .agg cs, .int _ k => if 0 ≤ k ∧ k < len then partOf ag (k.toNat * z) z cs else none
  | _, _ => none
theorem RO_ixv {ag : Bool} {len z : Nat} {i : Opd} : RO T cx Q K b0 (⟨some d, .ixv ag len z x i, none⟩ :: rest) ⟨fr, ds, h⟩ ↔ OM (ixvM ag len z (opd fr x) (opd fr i)) fun v => RO T cx Q K b0 rest ⟨fr.set d v, ds, h⟩ :=
  RO_opt (op := .ixv ag len z x i) (ixvM ag len z (opd fr x) (opd fr i)) (by
    simp only [act, ixvM]
    cases opd fr x <;> cases opd fr i <;> try rfl
    simp only []
    split <;> rfl)

def eqaM (neg : Bool) (ks : List Nat) (a b : AV) : Option AV :=
  match a, b with
  | .agg a, .agg b => if a.map AV.kd = ks ∧ b.map AV.kd = ks then (eqs a b).map fun t => .bool (t != neg) else none
  | _, _ => none
theorem RO_eqa {neg : Bool} {ks : List Nat} : RO T cx Q K b0 (⟨some d, .eqa neg ks x y, none⟩ :: rest) ⟨fr, ds, h⟩ ↔ OM (eqaM neg ks (opd fr x) (opd fr y)) fun v => RO T cx Q K b0 rest ⟨fr.set d v, ds, h⟩ :=
  RO_opt (op := .eqa neg ks x y) (eqaM neg ks (opd fr x) (opd fr y)) (by
    simp only [act, eqaM]
    cases opd fr x <;> cases opd fr y <;> try rfl
    simp only []
    split
    · rename_i a b _
      cases eqs a b <;> rfl
    · rfl)

theorem RO_eqn {k : Nat} {neg : Bool} : RO T cx Q K b0 (⟨some d, .eqn k neg x, none⟩ :: rest) ⟨fr, ds, h⟩ ↔ OM ((isNilK k (opd fr x)).map fun t => AV.bool (t != neg)) fun v => RO T cx Q K b0 rest ⟨fr.set d v, ds, h⟩ :=
  RO_opt (op := .eqn k neg x) ((isNilK k (opd fr x)).map fun t => AV.bool (t != neg)) (by simp only [act]; cases isNilK k (opd fr x) <;> rfl)

theorem RO_mx {args : List Opd} : RO T cx Q K b0 (⟨some d, .mx args, none⟩ :: rest) ⟨fr, ds, h⟩ ↔ OM (foldO1 mx2 (args.map (opd fr))) fun v => RO T cx Q K b0 rest ⟨fr.set d v, ds, h⟩ :=
  RO_opt (op := .mx args) (foldO1 mx2 (args.map (opd fr))) rfl
theorem RO_mn {args : List Opd} : RO T cx Q K b0 (⟨some d, .mn args, none⟩ :: rest) ⟨fr, ds, h⟩ ↔ OM (foldO1 mn2 (args.map (opd fr))) fun v => RO T cx Q K b0 rest ⟨fr.set d v, ds, h⟩ :=
  RO_opt (op := .mn args) (foldO1 mn2 (args.map (opd fr))) rfl
theorem RO_build {z : List AV} {ps : List (Nat × Nat × Opd)} : RO T cx Q K b0 (⟨some d, .build z ps, none⟩ :: rest) ⟨fr, ds, h⟩ ↔ OM ((fill z (mkParts fr ps)).map AV.agg) fun v => RO T cx Q K b0 rest ⟨fr.set d v, ds, h⟩ :=
  RO_opt (op := .build z ps) ((fill z (mkParts fr ps)).map AV.agg) (by simp only [act]; cases fill z (mkParts fr ps) <;> rfl)
theorem RO_lit {n : Nat} {z : List AV} {ps : List (Nat × Opd)} : RO T cx Q K b0 (⟨some d, .lit n z ps, none⟩ :: rest) ⟨fr, ds, h⟩ ↔ OM ((fillRow z.length (List.replicate n z) (mkParts' fr ps)).map fun es => AV.fs es true) fun v => RO T cx Q K b0 rest ⟨fr.set d v, ds, h⟩ :=
  RO_opt (op := .lit n z ps) ((fillRow z.length (List.replicate n z) (mkParts' fr ps)).map fun es => AV.fs es true) (by simp only [act]; cases fillRow z.length (List.replicate n z) (mkParts' fr ps) <;> rfl)
theorem RO_mkfn {f : Nat} {cap : List Opd} : RO T cx Q K b0 (⟨some d, .mkfn f cap, none⟩ :: rest) ⟨fr, ds, h⟩ ↔ RO T cx Q K b0 rest ⟨fr.set d (.fn f (cap.map (opd fr))), ds, h⟩ :=
  RO_opt (op := .mkfn f cap) (some (.fn f (cap.map (opd fr)))) rfl

def capM (a : AV) : Option AV := match a with | .nils => some (.int .i64 0) | .fs es true => some (.int .i64 es.length) | .row _ v _ _ c _ => if v % 2 = 1 then some (.int .i64 c) else none | _ => none
theorem RO_cap : RO T cx Q K b0 (⟨some d, .cap x, none⟩ :: rest) ⟨fr, ds, h⟩ ↔ OM (capM (opd fr x)) fun v => RO T cx Q K b0 rest ⟨fr.set d v, ds, h⟩ :=
  RO_opt (op := .cap x) (capM (opd fr x)) (by
    simp only [act, capM]
    cases opd fr x <;> try rfl
    · rename_i es b; cases b <;> rfl
    · simp only []; split <;> rfl)

def slcM (z : Nat) (a : AV) (lo hi mx : Option AV) : Option AV := match a with | .str _ => none | a => cut z a lo hi mx
theorem RO_slice {z : Nat} {lo hi mx : Option Opd} : RO T cx Q K b0 (⟨some d, .slice z x lo hi mx, none⟩ :: rest) ⟨fr, ds, h⟩ ↔ OM (slcM z (opd fr x) (lo.map (opd fr)) (hi.map (opd fr)) (mx.map (opd fr))) fun v => RO T cx Q K b0 rest ⟨fr.set d v, ds, h⟩ :=
  RO_opt (op := .slice z x lo hi mx) (slcM z (opd fr x) (lo.map (opd fr)) (hi.map (opd fr)) (mx.map (opd fr))) (by simp only [act, slcM]; cases opd fr x <;> rfl)

theorem RO_box : RO T cx Q K b0 (⟨some d, .box x, none⟩ :: rest) ⟨fr, ds, h⟩ ↔ OM (opd fr x).cells fun cs => RO T cx Q K b0 rest ⟨fr.set d (.ref h.length 0 0 0), ds, h ++ [.cells 0 [cs]]⟩ := by
  cases hc : (opd fr x).cells with
  | none => rw [RO_opt (op := .box x) none (by simp only [act, hc]; rfl)]; rfl
  | some cs => rw [RO_act (op := .box x) (a := .new [cs]) (by simp only [act, hc]; rfl)]; rfl
theorem RO_alloc {z : List AV} : RO T cx Q K b0 (⟨some d, .alloc z, none⟩ :: rest) ⟨fr, ds, h⟩ ↔ RO T cx Q K b0 rest ⟨fr.set d (.ref h.length 0 0 0), ds, h ++ [.cells 0 [z]]⟩ :=
  RO_act (op := .alloc z) (a := .new [z]) rfl

/-- What a store leaves. -/
def stM (wp : Nat) (h : Heap) (n : Nat) (a v : AV) : Option Heap :=
  match a, v.cells with
  | .ref i ver e f, some cs =>
    if cs.length = n ∧ cs.all AV.one ∧ wp ≤ i then do
      let es ← rdRow h i ver
      let old ← es[e]?
      if f + cs.length ≤ old.length then some (h.set i (.cells ver (es.set e (splice old f cs)))) else none
    else none
  | _, _ => none
theorem RO_store {n : Nat} : RO T cx Q K b0 (⟨none, .store n x y, none⟩ :: rest) ⟨fr, ds, h⟩ ↔ OM (stM cx.wp h n (opd fr x) (opd fr y)) fun h' => RO T cx Q K b0 rest ⟨fr, ds, h'⟩ := by
  rw [RO_cons]
  simp only [wanted, act, put, OM, if_true]
  cases opd fr x <;> try rfl
  rename_i i ver e f
  cases hc : (opd fr y).cells with
  | none => simp only [stM, hc]
  | some cs =>
    simp only [stM, hc]
    by_cases h1 : cs.length = n ∧ cs.all AV.one
    · rw [if_pos h1]
      simp only [doAct]
      by_cases hw : cx.wp ≤ i
      · rw [if_pos hw, if_pos ⟨h1.1, h1.2, hw⟩]
        cases rdRow h i ver with
        | none => rfl
        | some es =>
          simp only [Option.bind_eq_bind, Option.bind_some]
          cases es[e]? with
          | none => rfl
          | some old =>
            simp only [Option.bind_some]
            by_cases hl : f + cs.length ≤ old.length
            · rw [if_pos hl, if_pos hl]
            · rw [if_neg hl, if_neg hl]
      · rw [if_neg hw, if_neg (fun h => hw h.2.2)]
    · rw [if_neg h1, if_neg (fun h => h1 ⟨h.1, h.2.1⟩)]

/-- What clear leaves. -/
def clM (wp : Nat) (h : Heap) (zero : List AV) (a : AV) : Option Heap :=
  match a with
  | .nils => some h
  | .fs [] _ => some h
  | .row i v o n _ zr => if zr = zero.length ∧ wp ≤ i then do
      let es ← rdRow h i v
      if o + n ≤ es.length then some (h.set i (.cells v (es.take o ++ List.replicate n zero ++ es.drop (o + n)))) else none
    else none
  | _ => none
theorem RO_clear {zero : List AV} : RO T cx Q K b0 (⟨none, .clear zero x, none⟩ :: rest) ⟨fr, ds, h⟩ ↔ OM (clM cx.wp h zero (opd fr x)) fun h' => RO T cx Q K b0 rest ⟨fr, ds, h'⟩ := by
  rw [RO_cons]
  simp only [wanted, act, put, OM, if_true]
  cases opd fr x <;> try rfl
  · rename_i es b
    cases es <;> rfl
  · rename_i i v o n c zr
    simp only [clM]
    by_cases h1 : zr = zero.length
    · rw [if_pos h1]
      simp only [doAct]
      by_cases hw : cx.wp ≤ i
      · rw [if_pos ⟨h1, hw⟩]
        cases rdRow h i v with
        | none => rfl
        | some es =>
          simp only [Option.bind_eq_bind, Option.bind_some]
          by_cases hl : o + n ≤ es.length
          · rw [if_pos ⟨hw, hl⟩, if_pos hl]
          · rw [if_neg (fun h => hl h.2), if_neg hl]
      · rw [if_neg (fun h => hw h.2)]
        cases rdRow h i v with
        | none => rfl
        | some es =>
          simp only [Option.bind_eq_bind, Option.bind_some]
          rw [if_neg (fun h => hw h.1)]
    · rw [if_neg h1, if_neg (fun h => h1 h.1)]

/-- A call of a function value. -/
noncomputable def cvM (T : Tab) (cx : Ctx) (h : Heap) (g : AV) (args : List AV) : Option (AV × Heap) :=
  match g with
  | .fn f cap => callF T (ev T) cx f (args ++ cap) h
  | .yld l => roundF T (ev T) cx l args h
  | _ => none
theorem cvM_fn {f : Nat} {cap args : List AV} : cvM T cx h (.fn f cap) args = callF T (ev T) cx f (args ++ cap) h := rfl
theorem cvM_yld {l : Nat} {args : List AV} : cvM T cx h (.yld l) args = roundF T (ev T) cx l args h := rfl
theorem RO_callv {args : List Opd} : RO T cx Q K b0 (⟨some d, .callv x args, none⟩ :: rest) ⟨fr, ds, h⟩ ↔ OM (cvM T cx h (opd fr x) (args.map (opd fr))) fun r => RO T cx Q K b0 rest ⟨fr.set d r.1, ds, r.2⟩ := by
  cases hx : opd fr x
  case fn f cap => rw [RO_act (op := .callv x args) (a := .call f (args.map (opd fr) ++ cap)) (by simp only [act, hx])]; rfl
  case yld l => rw [RO_act (op := .callv x args) (a := .round l (args.map (opd fr))) (by simp only [act, hx])]; rfl
  all_goals rw [RO_opt (op := .callv x args) none (by simp only [act, hx]; rfl)]; rfl

/-- What an append leaves. -/
def apM (wp : Nat) (h : Heap) (z bytes : Nat) (s x : AV) : Option (AV × Heap) :=
  match act [] 0 (.append z bytes (.c s) (.c x)) with
  | some (.app z bytes i v o n c s) => doAct ⟨fun _ => none, fun _ => none⟩ (fun _ _ _ => none) ⟨wp, none⟩ h (.app z bytes i v o n c s)
  | some (.appnew z bytes s0 es s) => doAct ⟨fun _ => none, fun _ => none⟩ (fun _ _ _ => none) ⟨wp, none⟩ h (.appnew z bytes s0 es s)
  | _ => none
theorem RO_append {z bytes : Nat} : RO T cx Q K b0 (⟨some d, .append z bytes x y, none⟩ :: rest) ⟨fr, ds, h⟩ ↔ OM (apM cx.wp h z bytes (opd fr x) (opd fr y)) fun r => RO T cx Q K b0 rest ⟨fr.set d r.1, ds, r.2⟩ := by
  have e : act fr b0 (.append z bytes x y) = act [] 0 (.append z bytes (.c (opd fr x)) (.c (opd fr y))) := rfl
  unfold apM
  rw [← e]
  cases ha : act fr b0 (.append z bytes x y) with
  | none => rw [RO_opt (op := .append z bytes x y) none (by rw [ha]; rfl)]; rfl
  | some a =>
    rw [RO_act (op := .append z bytes x y) ha]
    have hk : (∃ z b i v o n c s, a = .app z b i v o n c s) ∨ ∃ z b s0 es s, a = .appnew z b s0 es s := by
      simp only [act] at ha
      split at ha
      · injection ha with ha; exact .inr ⟨_, _, _, _, _, ha.symm⟩
      · split at ha
        · injection ha with ha; exact .inr ⟨_, _, _, _, _, ha.symm⟩
        · cases ha
      · split at ha
        · injection ha with ha; exact .inl ⟨_, _, _, _, _, _, _, _, ha.symm⟩
        · cases ha
      · cases ha
    rcases hk with ⟨_, _, _, _, _, _, _, _, rfl⟩ | ⟨_, _, _, _, _, rfl⟩ <;> rfl

/-- What is loaded. -/
def ldM (h : Heap) (ag : Bool) (n : Nat) : AV → Option AV
  | .ref i v e f => rdAt h ag i v e f n
  | .fptr cs => partOf ag 0 n cs
  | _ => none
theorem RO_load {ag : Bool} {n : Nat} : RO T cx Q K b0 (⟨some d, .load ag n x, none⟩ :: rest) ⟨fr, ds, h⟩ ↔ OM (ldM h ag n (opd fr x)) fun v => RO T cx Q K b0 rest ⟨fr.set d v, ds, h⟩ := by
  cases hx : opd fr x
  case ref i v e f =>
    rw [RO_act (a := .load ag i v e f n) (by simp only [act, hx])]
    simp only [ldM, doAct, rdAt, Option.bind_eq_bind]
    cases rdRow h i v with
    | none => rfl
    | some es =>
      simp only [Option.bind_some]
      cases es[e]? with
      | none => rfl
      | some cs =>
        simp only [Option.bind_some]
        cases partOf ag f n cs <;> rfl
  case fptr cs =>
    exact RO_opt (op := .load ag n x) (partOf ag 0 n cs) (by simp only [act, hx])
  all_goals exact RO_opt (op := .load ag n x) none (by simp only [act, hx]; rfl)

theorem RO_callf {f : Nat} {args : List Opd} : RO T cx Q K b0 (⟨some d, .callf f args, none⟩ :: rest) ⟨fr, ds, h⟩ ↔ OM (callF T (ev T) cx f (args.map (opd fr)) h) fun r => RO T cx Q K b0 rest ⟨fr.set d r.1, ds, r.2⟩ :=
  RO_act (op := .callf f args) rfl
theorem RO_callfn {f : Nat} {args : List Opd} : RO T cx Q K b0 (⟨none, .callf f args, none⟩ :: rest) ⟨fr, ds, h⟩ ↔ OM (callF T (ev T) cx f (args.map (opd fr)) h) fun r => RO T cx Q K b0 rest ⟨fr, ds, r.2⟩ :=
  RO_actn (op := .callf f args) rfl

end

/-! ### What small operations give: rules that are no 'rfl' (the congruences above ask proofs) -/
section
variable {k : IntKind} {a b : Int} {p q : Bool} {s t : List UInt8} {u v : AV}
theorem bin_add : binM .add (.int k a) (.int k b) = some (.int k (k.wrap (a + b))) := by simp [binM, bin, binInt]
theorem bin_sub : binM .sub (.int k a) (.int k b) = some (.int k (k.wrap (a - b))) := by simp [binM, bin, binInt]
theorem bin_mul : binM .mul (.int k a) (.int k b) = some (.int k (k.wrap (a * b))) := by simp [binM, bin, binInt]
theorem bin_eql : binM .eql (.int k a) (.int k b) = some (.bool (decide (a = b))) := by simp [binM, bin, binInt]
theorem bin_neq : binM .neq (.int k a) (.int k b) = some (.bool (!decide (a = b))) := by simp [binM, bin, binInt]
theorem bin_lss : binM .lss (.int k a) (.int k b) = some (.bool (decide (a < b))) := by simp [binM, bin, binInt]
theorem bin_leq : binM .leq (.int k a) (.int k b) = some (.bool (decide (a ≤ b))) := by simp [binM, bin, binInt]
theorem bin_gtr : binM .gtr (.int k a) (.int k b) = some (.bool (decide (b < a))) := by simp [binM, bin, binInt]
theorem bin_geq : binM .geq (.int k a) (.int k b) = some (.bool (decide (b ≤ a))) := by simp [binM, bin, binInt]
theorem bin_seql : binM .eql (.str s) (.str t) = some (.bool (decide (s = t))) := by simp [binM, bin, binStr]
theorem bin_sneq : binM .neq (.str s) (.str t) = some (.bool (!decide (s = t))) := by simp [binM, bin, binStr]
theorem binb_eql : binbM .eql (.bool p) (.bool q) = some (.bool (decide (p = q))) := by simp [binbM, bin]
theorem binb_neq : binbM .neq (.bool p) (.bool q) = some (.bool (!decide (p = q))) := by simp [binbM, bin]
theorem un_not : un .not (.bool p) = some (.bool (!p)) := by simp [un]
theorem un_neg : un .neg (.int k a) = some (.int k (k.wrap (0 - a))) := by simp [un]
theorem pick_t : pickM (.bool true) u v = some u := by simp [pickM]
theorem pick_f : pickM (.bool false) u v = some v := by simp [pickM]
theorem mn_2 : foldO1 mn2 [.int k a, .int k b] = some (.int k (if b < a then b else a)) := by simp [foldO1, foldO, mn2]
theorem mx_2 : foldO1 mx2 [.int k a, .int k b] = some (.int k (if a < b then b else a)) := by simp [foldO1, foldO, mx2]
theorem len_nils : lenM .nils = some (.int .i64 0) := by simp [lenM]
theorem len_fs {es : List (List AV)} {x : Bool} : lenM (.fs es x) = some (.int .i64 es.length) := by simp [lenM]
theorem len_row {i v' o n c z : Nat} : lenM (.row i v' o n c z) = some (.int .i64 n) := by simp [lenM]
theorem eqa_2 {k' : IntKind} {c d : Int} {neg : Bool} : eqaM neg [1, 1] (.agg [.int k a, .int k' b]) (.agg [.int k c, .int k' d]) = some (.bool ((decide (a = c) && decide (b = d)) != neg)) := by
  simp [eqaM, AV.kd, eqs, eq1]
end

/-! ### Slices by their elements -/
/-- The value points to these cells. -/
structure Pt (H : Heap) (p : AV) (cs : List AV) : Prop where
  ld : ∀ ag n, ldM H ag n p = partOf ag 0 n cs
  fld : ∀ off, off ≤ cs.length → ∃ q, fldM off p = some q ∧ ∀ ag n, ldM H ag n q = partOf ag off n cs
  ixa : ∀ (k : IntKind) (len z j : Nat), j < len → j * z ≤ cs.length → ixaM len z p (.int k j) = fldM (j * z) p

theorem part_drop {ag : Bool} {off n : Nat} {cs : List AV} (h : off ≤ cs.length) : partOf ag 0 n (cs.drop off) = partOf ag off n cs := by
  unfold partOf
  simp only [List.length_drop, List.drop_zero, Nat.zero_add]
  by_cases h1 : off + n ≤ cs.length
  · rw [if_pos h1, if_pos (by omega)]
    cases ag <;> simp
  · rw [if_neg h1, if_neg (by omega)]

theorem Pt.fptr {H : Heap} {cs : List AV} : Pt H (.fptr cs) cs where
  ld _ _ := rfl
  fld off h := ⟨.fptr (cs.drop off), by simp only [fldM, if_pos h], fun ag n => part_drop h⟩
  ixa k len z j h1 h2 := by
    simp only [ixaM, fldM, Int.toNat_natCast]
    rw [if_pos ⟨by omega, by omega, h2⟩, if_pos h2]

theorem Pt.ref {H : Heap} {i v e : Nat} {es : List (List AV)} {cs : List AV} (h1 : rdRow H i v = some es) (h2 : es[e]? = some cs) : Pt H (.ref i v e 0) cs where
  ld ag n := by simp [ldM, rdAt, h1, h2]
  fld off h := ⟨_, rfl, fun ag n => by simp [ldM, rdAt, h1, h2]⟩
  ixa k len z j h3 h4 := by
    simp only [ixaM, fldM, Int.toNat_natCast]
    rw [if_pos ⟨by omega, by omega⟩]

/-- The value is a slice with these elements, of z cells each. -/
structure Sl (z : Nat) (H : Heap) (v : AV) (es : List (List AV)) : Prop where
  len : lenM v = some (.int .i64 es.length)
  ix : ∀ (k : IntKind) (i : Nat), i < es.length → ∃ p, ixsM z v (.int k i) = some p ∧ Pt H p (es.getD i [])
  src : ∃ s, srcOf z v = some s ∧ rdSrc H s = some es

/-- Where an element lies. -/
noncomputable def elp (z : Nat) (v : AV) (k : IntKind) (i : Nat) : AV := (ixsM z v (.int k i)).getD .any
/-- Where its cells lie. -/
noncomputable def elf (off : Nat) (p : AV) : AV := (fldM off p).getD .any

theorem Sl.ixs {z : Nat} {H : Heap} {v : AV} {es : List (List AV)} (hs : Sl z H v es) {k : IntKind} {i : Nat} (hi : i < es.length) : ixsM z v (.int k i) = some (elp z v k i) := by
  obtain ⟨p, h1, _⟩ := hs.ix k i hi
  rw [elp, h1]; rfl
theorem Sl.pt {z : Nat} {H : Heap} {v : AV} {es : List (List AV)} (hs : Sl z H v es) {k : IntKind} {i : Nat} (hi : i < es.length) : Pt H (elp z v k i) (es.getD i []) := by
  obtain ⟨p, h1, h2⟩ := hs.ix k i hi
  rw [elp, h1]; exact h2
theorem Sl.ld {z : Nat} {H : Heap} {v : AV} {es : List (List AV)} (hs : Sl z H v es) {k : IntKind} {i : Nat} (hi : i < es.length) {ag : Bool} {n : Nat} : ldM H ag n (elp z v k i) = partOf ag 0 n (es.getD i []) := (hs.pt hi).ld ag n
theorem Pt.elf {H : Heap} {p : AV} {cs : List AV} (hp : Pt H p cs) {off : Nat} (h : off ≤ cs.length) : fldM off p = some (elf off p) := by
  obtain ⟨q, h1, _⟩ := hp.fld off h
  rw [AM.elf, h1]; rfl
theorem Pt.ldf {H : Heap} {p : AV} {cs : List AV} (hp : Pt H p cs) {off : Nat} (h : off ≤ cs.length) {ag : Bool} {n : Nat} : ldM H ag n (AM.elf off p) = partOf ag off n cs := by
  obtain ⟨q, h1, h2⟩ := hp.fld off h
  rw [AM.elf, h1]; exact h2 ag n
theorem Pt.ixa0 {H : Heap} {p : AV} {cs : List AV} (hp : Pt H p cs) {k : IntKind} {len z : Nat} (h : 0 < len) : ixaM len z p (.int k 0) = some (AM.elf 0 p) := by
  have := hp.ixa k len z 0 h (by omega)
  rw [Nat.zero_mul] at this
  rw [show ((0 : Int)) = ((0 : Nat) : Int) from rfl, this]
  exact hp.elf (Nat.zero_le _)
theorem Pt.ixa1 {H : Heap} {p : AV} {cs : List AV} (hp : Pt H p cs) {k : IntKind} {len z : Nat} (h : 1 < len) (h2 : z ≤ cs.length) : ixaM len z p (.int k 1) = some (AM.elf z p) := by
  have := hp.ixa k len z 1 h (by omega)
  rw [Nat.one_mul] at this
  rw [show ((1 : Int)) = ((1 : Nat) : Int) from rfl, this]
  exact hp.elf h2

theorem Sl.nils {z : Nat} {H : Heap} : Sl z H .nils [] where
  len := rfl
  src := ⟨_, rfl, rfl⟩
  ix k i h := by simp at h
theorem Sl.fs {z : Nat} {H : Heap} {es : List (List AV)} {x : Bool} (hz : ∀ e ∈ es, e.length = z) : Sl z H (.fs es x) es where
  len := rfl
  src := ⟨.els es, by
    simp only [srcOf]
    rw [if_pos]
    rw [List.all_eq_true]
    intro e he
    simp [hz e he], rfl⟩
  ix k i h := by
    refine ⟨.fptr es[i], ?_, ?_⟩
    · simp [ixsM, act, opd_c, h, hz _ (List.getElem_mem h)]
    · rw [List.getD_eq_getElem?_getD, List.getElem?_eq_getElem h]; exact .fptr
theorem Sl.row {z : Nat} {H : Heap} {i v o c : Nat} {all es : List (List AV)} (h : rdRow H i v = some all) (ho : o ≤ all.length) (he : ∀ k, k < es.length → all[o + k]? = es[k]?) : Sl z H (.row i v o es.length c z) es where
  len := rfl
  src := by
    refine ⟨.row i v o es.length, by simp [srcOf], ?_⟩
    have hl : o + es.length ≤ all.length ∨ es.length = 0 := by
      by_cases h0 : es.length = 0
      · exact .inr h0
      · have := he (es.length - 1) (by omega)
        rw [List.getElem?_eq_getElem (show es.length - 1 < es.length by omega)] at this
        have := (List.getElem?_eq_some_iff.1 this).1
        omega
    simp only [rdSrc, rdEls, h, Option.bind_eq_bind, Option.bind_some]
    rcases hl with hl | hl
    · rw [if_pos hl]
      congr 1
      apply List.ext_getElem?
      intro k
      rw [List.getElem?_take]
      by_cases hk : k < es.length
      · rw [if_pos hk, List.getElem?_drop, he k hk]
      · rw [if_neg hk, List.getElem?_eq_none (by omega)]
    · have : es = [] := List.eq_nil_of_length_eq_zero hl
      subst this
      rw [if_pos (by simpa using ho)]
      simp
  ix k j hj := by
    refine ⟨.ref i v (o + j) 0, ?_, ?_⟩
    · simp [ixsM, act, opd_c, hj]
    · rw [List.getD_eq_getElem?_getD, List.getElem?_eq_getElem hj]
      exact .ref h (by rw [he j hj, List.getElem?_eq_getElem hj]; rfl)

theorem wrap64 {x : Int} (h1 : -9223372036854775808 ≤ x) (h2 : x < 9223372036854775808) : IntKind.i64.wrap x = x := by
  rw [IntKind.wrap_i64]; omega

/-! ### Calls -/
/-- What is asked of the end of a function that leaves the heap as it is (mode 2). -/
def Fin2 (H : Heap) (res : List Res) (v : AV) : Ex → St → Prop
  | .exit _, _ => False
  | _, st => ∃ h' v', killAll H.length st.h st.ds = some h' ∧ result st.fr h' res = some v' ∧ freeze H.length h' depth v' = some v

theorem callF_pure {f : Nat} {a : AFn} (hf : T.fn f = some (.code a)) (hm : a.mode = 2) {args : List AV} {H : Heap} (hw : cx.wp ≤ H.length) {v : AV}
    (hr : R T ⟨H.length, none⟩ a.body ⟨args ++ List.replicate (a.ntmps - args.length) .any, [], H⟩ (Fin2 H a.res v)) :
    callF T (ev T) cx f args H = some (v, H) := by
  unfold callF
  rw [hf]
  simp only [if_pos hw]
  have hcx : cx.enter a.mode H.length = ⟨H.length, none⟩ := by rw [hm]; rfl
  rw [hcx]
  obtain ⟨ex, st, he, hq⟩ := R_some.1 hr
  rw [he]
  have fin : (∃ h' v', killAll H.length st.h st.ds = some h' ∧ result st.fr h' a.res = some v' ∧ freeze H.length h' depth v' = some v) → (match killAll H.length st.h st.ds with
      | some h' => do
        let v ← result st.fr h' a.res
        leave a.mode H.length H h' v
      | none => none) = some (v, H) := by
    rintro ⟨h', v', h1, h2, h3⟩
    rw [h1]
    simp only [h2, Option.bind_eq_bind, Option.bind_some, hm, leave, h3, Option.map_some]
  cases ex with
  | nrm => exact fin hq
  | ret => exact fin hq
  | exit id => exact hq.elim

/-! ### Frames at a function's door, and its end -/
theorem enter_fr {args : List AV} {k N : Nat} (h : args.length + k = N) : args ++ List.replicate k AV.any = mkfr N (fun n => args.getD n .any) := by
  have e := fr_any (l := args ++ List.replicate k AV.any) (N := N) (by simpa using h)
  refine e.trans ?_
  congr 1
  funext n
  simp only [List.getD_eq_getElem?_getD, List.getElem?_append]
  split
  · rfl
  · rw [List.getElem?_replicate, List.getElem?_eq_none (by omega)]
    split <;> rfl

/-- What is asked of a function's end. -/
def FinQ (H : Heap) (res : List Res) (P : AV → Heap → Prop) : Ex → St → Prop
  | .exit _, _ => False
  | _, st => OM (killAll H.length st.h st.ds) fun h' => OM (result st.fr h' res) fun v => P v h'

theorem FinQ_ret {H h : Heap} {res : List Res} {P : AV → Heap → Prop} {fr : List AV} : FinQ H res P .ret ⟨fr, [], h⟩ ↔ OM (result fr h res) fun v => P v h := Iff.rfl
theorem FinQ_nrm {H h : Heap} {res : List Res} {P : AV → Heap → Prop} {fr : List AV} : FinQ H res P .nrm ⟨fr, [], h⟩ ↔ OM (result fr h res) fun v => P v h := Iff.rfl
theorem FinQ_retd {H h : Heap} {res : List Res} {P : AV → Heap → Prop} {fr : List AV} {ds : List Nat} : FinQ H res P .ret ⟨fr, ds, h⟩ ↔ OM (killAll H.length h ds) fun h' => OM (result fr h' res) fun v => P v h' := Iff.rfl
theorem FinQ_nrmd {H h : Heap} {res : List Res} {P : AV → Heap → Prop} {fr : List AV} {ds : List Nat} : FinQ H res P .nrm ⟨fr, ds, h⟩ ↔ OM (killAll H.length h ds) fun h' => OM (result fr h' res) fun v => P v h' := Iff.rfl

theorem res_t {N : Nat} {f : Nat → AV} {n : Nat} {h : Heap} (hn : n < N) : result (mkfr N f) h [.t n] = some (f n) := by
  simp [result, results, mkfr, hn]
theorem res_none {fr : List AV} {h : Heap} : result fr h [] = some (.tup []) := rfl
theorem res_t2 {N : Nat} {f : Nat → AV} {n m : Nat} {h : Heap} (hn : n < N) (hm : m < N) : result (mkfr N f) h [.t n, .t m] = some (.tup [f n, f m]) := by
  simp [result, results, mkfr, hn, hm]
theorem res_cell {N : Nat} {f : Nat → AV} {t i v e o n : Nat} {ag : Bool} {h : Heap} (hn : t < N) (hf : f t = .ref i v e o) {x : AV} (hr : rdAt h ag i v e o n = some x) : result (mkfr N f) h [.cell t ag n] = some x := by
  unfold rdAt at hr
  simp only [Option.bind_eq_bind] at hr
  obtain ⟨es, h1, hr⟩ := Option.bind_eq_some_iff.1 hr
  obtain ⟨cs, h2, hr⟩ := Option.bind_eq_some_iff.1 hr
  simp [result, results, mkfr, hn, hf, h1, h2, hr]

theorem callF_code {f : Nat} {a : AFn} (hf : T.fn f = some (.code a)) {args : List AV} {H : Heap} (hw : cx.wp ≤ H.length) (hl : args.length ≤ a.ntmps) {r : AV × Heap}
    (hr : RK T (cx.enter a.mode H.length) (FinQ H a.res fun v h' => leave a.mode H.length H h' v = some r) a.body [] ⟨mkfr a.ntmps (fun n => args.getD n .any), [], H⟩) :
    callF T (ev T) cx f args H = some r := by
  unfold callF
  rw [hf]
  simp only [if_pos hw]
  rw [enter_fr (N := a.ntmps) (by omega)]
  obtain ⟨ex, st, he, hq⟩ := R_some.1 hr
  rw [he]
  have fin : (OM (killAll H.length st.h st.ds) fun h' => OM (result st.fr h' a.res) fun v => leave a.mode H.length H h' v = some r) → (match killAll H.length st.h st.ds with
      | some h' => do
        let v ← result st.fr h' a.res
        leave a.mode H.length H h' v
      | none => none) = some r := by
    intro hq
    cases h1 : killAll H.length st.h st.ds with
    | none => rw [h1] at hq; exact hq.elim
    | some h' =>
      rw [h1] at hq
      simp only [OM_some] at hq
      simp only []
      cases h2 : result st.fr h' a.res with
      | none => rw [h2] at hq; exact hq.elim
      | some v => rw [h2] at hq; exact hq
  cases ex with
  | nrm => exact fin hq
  | ret => exact fin hq
  | exit id => exact hq.elim

/-- As callF_code, where the answer is told by a property. -/
theorem callF_codeE {f : Nat} {a : AFn} (hf : T.fn f = some (.code a)) {args : List AV} {H : Heap} (hw : cx.wp ≤ H.length) (hl : args.length ≤ a.ntmps) {P : AV × Heap → Prop}
    (hr : RK T (cx.enter a.mode H.length) (FinQ H a.res fun v h' => ∃ r, leave a.mode H.length H h' v = some r ∧ P r) a.body [] ⟨mkfr a.ntmps (fun n => args.getD n .any), [], H⟩) :
    ∃ r, callF T (ev T) cx f args H = some r ∧ P r := by
  obtain ⟨ex, st, he, hq⟩ := R_some.1 hr
  have fin : (OM (killAll H.length st.h st.ds) fun h' => OM (result st.fr h' a.res) fun v => ∃ r, leave a.mode H.length H h' v = some r ∧ P r) → ∃ r, (OM (killAll H.length st.h st.ds) fun h' => OM (result st.fr h' a.res) fun v => leave a.mode H.length H h' v = some r) ∧ P r := by
    intro hq
    cases h1 : killAll H.length st.h st.ds with
    | none => rw [h1] at hq; exact hq.elim
    | some h' =>
      rw [h1] at hq
      simp only [OM_some] at hq ⊢
      cases h2 : result st.fr h' a.res with
      | none => rw [h2] at hq; exact hq.elim
      | some v =>
        rw [h2] at hq
        obtain ⟨r, h3, h4⟩ := hq
        exact ⟨r, h3, h4⟩
  have key : ∃ r, FinQ H a.res (fun v h' => leave a.mode H.length H h' v = some r) ex st ∧ P r := by
    cases ex with
    | nrm => exact fin hq
    | ret => exact fin hq
    | exit id => exact hq.elim
  obtain ⟨r, h1, h2⟩ := key
  exact ⟨r, callF_code hf hw hl (R_some.2 ⟨ex, st, he, h1⟩), h2⟩

theorem leave2 {lb : Nat} {h0 h : Heap} {v : AV} (hv : v.under lb = true) : leave 2 lb h0 h v = some (v, h0) := by
  simp [leave, depth, freeze, hv]
theorem leave3 {lb : Nat} {h0 h : Heap} {v : AV} (hv : v.under lb = true) (hr : ∀ i v' o n c z, v ≠ .row i v' o n c z) : leave 3 lb h0 h v = some (v, h0) := by
  unfold leave
  split
  · rename_i e; cases e
  · rename_i e; cases e
  · split
    · exact absurd rfl (hr _ _ _ _ _ _)
    · simp [depth, freeze, hv]
theorem leave0 {lb : Nat} {h0 h : Heap} {v : AV} : leave 0 lb h0 h v = some (v, h) := rfl

/-- As callF_code, of a function of mode 2 whose answer names no box of its own. -/
theorem callF_code2 {f : Nat} {a : AFn} (hf : T.fn f = some (.code a)) (hm : a.mode = 2) {args : List AV} {H : Heap} (hw : cx.wp ≤ H.length) (hl : args.length ≤ a.ntmps) {v : AV} (hv : v.under H.length = true)
    (hr : RK T ⟨H.length, none⟩ (FinQ H a.res fun v' _ => v' = v) a.body [] ⟨mkfr a.ntmps (fun n => args.getD n .any), [], H⟩) :
    callF T (ev T) cx f args H = some (v, H) := by
  refine callF_code hf hw hl ?_
  rw [hm]
  refine hr.mono fun ex st hq => ?_
  have key : (OM (killAll H.length st.h st.ds) fun h' => OM (result st.fr h' a.res) fun v' => v' = v) → OM (killAll H.length st.h st.ds) fun h' => OM (result st.fr h' a.res) fun v' => leave 2 H.length H h' v' = some (v, H) := by
    intro hq
    cases h1 : killAll H.length st.h st.ds with
    | none => rw [h1] at hq; exact hq.elim
    | some h' =>
      rw [h1] at hq
      simp only [OM_some] at hq ⊢
      cases h2 : result st.fr h' a.res with
      | none => rw [h2] at hq; exact hq.elim
      | some v' =>
        rw [h2] at hq
        simp only [OM_some] at hq ⊢
        rw [hq]
        exact leave2 hv
  cases ex with
  | nrm => exact key hq
  | ret => exact key hq
  | exit id => exact hq.elim

end Go.AM
end

section
/- Appends, and rows of one's own. -/
namespace Go.AM
open Go

theorem rdRow_of {h : Heap} {i v : Nat} {es : List (List AV)} (hh : h[i]? = some (.cells v es)) : rdRow h i v = some es := by simp [rdRow, hh]

/-- A row of one's own, from its first element on. -/
structure Ow (z wp : Nat) (h : Heap) (v : AV) (es : List (List AV)) (i : Nat) : Prop where
  row : ∃ ver c all, v = .row i ver 0 es.length c z ∧ h[i]? = some (.cells ver all) ∧ all.take es.length = es ∧ c ≤ all.length ∧ es.length ≤ c
  wp : wp ≤ i
  z : ∀ e ∈ es, e.length = z

theorem Ow.sl {z wp : Nat} {h : Heap} {v : AV} {es : List (List AV)} {i : Nat} (ho : Ow z wp h v es i) : Sl z h v es := by
  obtain ⟨ver, c, all, rfl, h1, h2, h3, h4⟩ := ho.row
  refine Sl.row (rdRow_of h1) (Nat.zero_le _) fun k hk => ?_
  rw [Nat.zero_add]
  have := congrArg (fun l => l[k]?) h2
  simp only [List.getElem?_take, if_pos hk] at this
  exact this

theorem Ow.lt {z wp : Nat} {h : Heap} {v : AV} {es : List (List AV)} {i : Nat} (ho : Ow z wp h v es i) : i < h.length := by
  obtain ⟨ver, c, all, rfl, h1, _⟩ := ho.row
  exact (List.getElem?_eq_some_iff.1 h1).1

/-- The heap elsewhere does not matter. -/
theorem Ow.of {z wp : Nat} {h h' : Heap} {v : AV} {es : List (List AV)} {i : Nat} (ho : Ow z wp h v es i) (he : h'[i]? = h[i]?) : Ow z wp h' v es i := by
  obtain ⟨ver, c, all, h0, h1, h2⟩ := ho.row
  exact ⟨⟨ver, c, all, h0, he.trans h1, h2⟩, ho.wp, ho.z⟩

theorem ap_new {wp : Nat} {h : Heap} {z bytes : Nat} {s x : AV} {new : List (List AV)} (hs : s = .nils ∨ s = .fs [] true) (hx : Sl z h x new) (h1 : new.length * bytes ≤ maxLn) (h2 : new.length ≤ maxLn) :
    apM wp h z bytes s x = if new = [] then some (s, h) else some (.row h.length 0 0 new.length new.length z, h ++ [.cells 0 new]) := by
  obtain ⟨sr, e1, e2⟩ := hx.src
  rcases hs with rfl | rfl <;>
  · simp only [apM, act, opd, e1, List.all_nil, if_true, doAct, e2, Option.bind_eq_bind, Option.bind_some, List.length_nil, Nat.zero_add, List.nil_append]
    rw [if_pos ⟨h1, h2⟩]
    cases new with
    | nil => simp
    | cons a as => simp

/-- An append to a row of one's own: the row holds more. -/
theorem ap_own {wp : Nat} {h : Heap} {z bytes : Nat} {s x : AV} {es new : List (List AV)} {i : Nat} (ho : Ow z wp h s es i) (hx : Sl z h x new) (hz : ∀ e ∈ new, e.length = z) (h1 : (es.length + new.length) * bytes ≤ maxLn) (h2 : es.length + new.length ≤ maxLn) :
    ∃ v bx, apM wp h z bytes s x = some (v, h.set i bx) ∧ Ow z wp (h.set i bx) v (es ++ new) i := by
  obtain ⟨ver, c, all, rfl, e1, e2, e3, e4⟩ := ho.row
  obtain ⟨sr, q1, q2⟩ := hx.src
  have hil := ho.lt
  have hal : es.length ≤ all.length := by omega
  have hall : ∀ e ∈ es ++ new, e.length = z := fun e he => (List.mem_append.1 he).elim (ho.z e) (hz e)
  by_cases hc : es.length + new.length ≤ c
  · refine ⟨.row i ver 0 (es.length + new.length) c z, .cells ver (all.take (0 + es.length) ++ new ++ all.drop (0 + es.length + new.length)), ?_, ?_⟩
    · simp only [apM, act, opd, q1, if_true, doAct, rdRow_of e1, q2, Option.bind_eq_bind, Option.bind_some]
      rw [if_pos ⟨by omega, ho.wp⟩, if_pos hc, if_pos (by omega)]
    · refine ⟨⟨ver, c, _, by simp, List.getElem?_set_self hil, ?_, ?_, by simp; omega⟩, ho.wp, hall⟩
      · simp only [Nat.zero_add, e2, List.length_append]
        rw [List.take_append_of_le_length (by simp), List.take_of_length_le (by simp)]
      · simp; omega
  · refine ⟨.row i (2 * ver + 2) 0 (es.length + new.length) (es.length + new.length) z, .cells (2 * ver + 2) ((all.drop 0).take es.length ++ new), ?_, ?_⟩
    · simp only [apM, act, opd, q1, if_true, doAct, rdRow_of e1, q2, Option.bind_eq_bind, Option.bind_some]
      rw [if_pos ⟨by omega, ho.wp⟩, if_neg hc, if_pos ⟨h1, h2⟩]
    · refine ⟨⟨2 * ver + 2, es.length + new.length, _, by simp, List.getElem?_set_self hil, ?_, ?_, by simp⟩, ho.wp, hall⟩
      · rw [List.drop_zero, e2, List.take_of_length_le (by simp)]
      · rw [List.drop_zero, e2]; simp

theorem set_self {h : Heap} {i : Nat} {b : Box} (hb : h[i]? = some b) : h.set i b = h := by
  apply List.ext_getElem?
  intro k
  by_cases e : i = k
  · subst e
    rw [List.getElem?_set_self (List.getElem?_eq_some_iff.1 hb).1, hb]
  · rw [List.getElem?_set_ne e]

/-- What a function of mode 3 leaves of a row. -/
theorem mapO_id {α : Type} {f : α → Option α} : ∀ {l : List α}, (∀ x ∈ l, f x = some x) → mapO f l = some l
  | [], _ => rfl
  | a :: l, h => by
    simp only [mapO, h a (by simp), mapO_id (l := l) (fun x hx => h x (by simp [hx])), Option.bind_eq_bind, Option.bind_some]
theorem freeze_els {lb : Nat} {h : Heap} {es : List (List AV)} (hu : ∀ e ∈ es, ∀ c ∈ e, AV.under lb c = true) : mapO (mapO (freeze lb h depth)) es = some es :=
  mapO_id fun e he => mapO_id fun c hc => by simp [depth, freeze, hu e he c hc]
theorem leave3_row {lb : Nat} {h0 h : Heap} {i ver o n c z : Nat} {es : List (List AV)} (hi : lb ≤ i) (hr : rdEls h i ver o n = some es) (hu : ∀ e ∈ es, ∀ c ∈ e, AV.under lb c = true) :
    leave 3 lb h0 h (.row i ver o n c z) = some (.row lb 0 0 n n z, h0 ++ [.cells 0 es]) := by
  unfold leave
  simp only [if_pos hi, hr, Option.bind_eq_bind, Option.bind_some, freeze_els hu]
theorem leave2_row {lb : Nat} {h0 h : Heap} {i ver o n c z : Nat} {es : List (List AV)} (hi : lb ≤ i) (hr : rdEls h i ver o n = some es) (hu : ∀ e ∈ es, ∀ c ∈ e, AV.under lb c = true) :
    leave 2 lb h0 h (.row i ver o n c z) = some (.fs es false, h0) := by
  have : AV.under lb (.row i ver o n c z) = false := by simp [AV.under]; omega
  have e : freeze lb h depth (.row i ver o n c z) = some (.fs es false) := by
    show freeze lb h (11 + 1) _ = _
    unfold freeze
    simp only [this, Bool.false_eq_true, if_false, hr, Option.bind_eq_bind, Option.bind_some]
    rw [mapO_id (l := es) (fun e he => mapO_id fun c hc => by simp [freeze, hu e he c hc])]
    rfl
  show (freeze lb h depth (.row i ver o n c z)).map _ = _
  rw [e]
  rfl
theorem Ow.rd {z wp : Nat} {h : Heap} {v : AV} {es : List (List AV)} {i : Nat} (ho : Ow z wp h v es i) : ∃ ver c, v = .row i ver 0 es.length c z ∧ rdEls h i ver 0 es.length = some es := by
  obtain ⟨ver, c, all, h0, h1, h2, h3, h4⟩ := ho.row
  refine ⟨ver, c, h0, ?_⟩
  simp only [rdEls, rdRow_of h1, Option.bind_eq_bind, Option.bind_some, Nat.zero_add, List.drop_zero, h2]
  rw [if_pos (by omega)]

/-- What a function gives that makes a row: the row, its box the last; or nothing. -/
def Own3 (z : Nat) (H : Heap) (es : List (List AV)) (r : AV × Heap) : Prop :=
  (es = [] ∧ (r.1 = .nils ∨ r.1 = .fs [] true) ∧ r.2 = H) ∨ r = (.row H.length 0 0 es.length es.length z, H ++ [.cells 0 es])

theorem Own3.ow {z wp : Nat} {H : Heap} {es : List (List AV)} (hw : wp ≤ H.length) (hz : ∀ e ∈ es, e.length = z) : Ow z wp (H ++ [.cells 0 es]) (.row H.length 0 0 es.length es.length z) es H.length where
  row := ⟨0, es.length, es, rfl, by simp, by simp, Nat.le_refl _, Nat.le_refl _⟩
  wp := hw
  z := hz

theorem ixs_rowo {z i ver o n c : Nat} {k : IntKind} {j : Nat} (hj : j < n) : ixsM z (.row i ver o n c z) (.int k j) = some (.ref i ver (o + j) 0) := by
  simp [ixsM, act, opd, hj]
/-- Elements of a row of one's own. -/
theorem ixs_row {z i ver n c : Nat} {k : IntKind} {j : Nat} (hj : j < n) : ixsM z (.row i ver 0 n c z) (.int k j) = some (.ref i ver j 0) := by
  simp [ixsM, act, opd, hj]
theorem ld_row {h : Heap} {i ver j n : Nat} {ag : Bool} {all : List (List AV)} {cs : List AV} {x : AV} (h1 : h[i]? = some (.cells ver all)) (h2 : all[j]? = some cs) (hp : partOf ag 0 n cs = some x) : ldM h ag n (.ref i ver j 0) = some x := by
  simp [ldM, rdAt, rdRow_of h1, h2, hp]
theorem st_row {wp : Nat} {h : Heap} {i ver j n : Nat} {all : List (List AV)} {old cs : List AV} {x : AV} (h1 : h[i]? = some (.cells ver all)) (h2 : all[j]? = some old) (hw : wp ≤ i) (hc : x.cells = some cs) (hn : cs.length = n) (ho : cs.all AV.one = true) (hl : old.length = n) :
    stM wp h n (.ref i ver j 0) x = some (h.set i (.cells ver (all.set j cs))) := by
  simp only [stM, hc, rdRow_of h1, h2, Option.bind_eq_bind, Option.bind_some]
  rw [if_pos ⟨hn, ho, hw⟩, if_pos (by omega)]
  simp only [splice, List.take_zero, List.nil_append, Nat.zero_add]
  rw [List.drop_eq_nil_of_le (by omega), List.append_nil]

/-- A variable that was just laid. -/
theorem st_new {wp : Nat} {h : Heap} {n : Nat} {old cs : List AV} {x : AV} (hw : wp ≤ h.length) (hc : x.cells = some cs) (hn : cs.length = n) (ho : cs.all AV.one = true) (hl : old.length = n) :
    stM wp (h ++ [.cells 0 [old]]) n (.ref h.length 0 0 0) x = some (h ++ [.cells 0 [cs]]) := by
  rw [st_row (all := [old]) (old := old) (cs := cs) (by simp) (by simp) hw hc hn ho hl]
  simp
theorem ld_new {h : Heap} {n : Nat} {ag : Bool} {cs : List AV} : ldM (h ++ [.cells 0 [cs]]) ag n (.ref h.length 0 0 0) = partOf ag 0 n cs := by
  simp [ldM, rdAt, rdRow]

end Go.AM
end

section
/- Operations by how many operands they have: rules without 'map'. -/
namespace Go.AM
open Go
section
variable {T : Tab} {cx : Ctx} {Q : Ex → St → Prop} {K : List Kont} {b0 : Nat} {fr : List AV} {ds : List Nat} {h : Heap} {d : Nat} {x y z w : Opd} {rest : List AO}

theorem RO_callf0 {f : Nat} : RO T cx Q K b0 (⟨some d, .callf f [], none⟩ :: rest) ⟨fr, ds, h⟩ ↔ OM (callF T (ev T) cx f [] h) fun r => RO T cx Q K b0 rest ⟨fr.set d r.1, ds, r.2⟩ := RO_callf
theorem RO_callf1 {f : Nat} : RO T cx Q K b0 (⟨some d, .callf f [x], none⟩ :: rest) ⟨fr, ds, h⟩ ↔ OM (callF T (ev T) cx f [opd fr x] h) fun r => RO T cx Q K b0 rest ⟨fr.set d r.1, ds, r.2⟩ := RO_callf
theorem RO_callf2 {f : Nat} : RO T cx Q K b0 (⟨some d, .callf f [x, y], none⟩ :: rest) ⟨fr, ds, h⟩ ↔ OM (callF T (ev T) cx f [opd fr x, opd fr y] h) fun r => RO T cx Q K b0 rest ⟨fr.set d r.1, ds, r.2⟩ := RO_callf
theorem RO_callf3 {f : Nat} : RO T cx Q K b0 (⟨some d, .callf f [x, y, z], none⟩ :: rest) ⟨fr, ds, h⟩ ↔ OM (callF T (ev T) cx f [opd fr x, opd fr y, opd fr z] h) fun r => RO T cx Q K b0 rest ⟨fr.set d r.1, ds, r.2⟩ := RO_callf
theorem RO_callf4 {f : Nat} : RO T cx Q K b0 (⟨some d, .callf f [x, y, z, w], none⟩ :: rest) ⟨fr, ds, h⟩ ↔ OM (callF T (ev T) cx f [opd fr x, opd fr y, opd fr z, opd fr w] h) fun r => RO T cx Q K b0 rest ⟨fr.set d r.1, ds, r.2⟩ := RO_callf
theorem RO_callv0 : RO T cx Q K b0 (⟨some d, .callv x [], none⟩ :: rest) ⟨fr, ds, h⟩ ↔ OM (cvM T cx h (opd fr x) []) fun r => RO T cx Q K b0 rest ⟨fr.set d r.1, ds, r.2⟩ := RO_callv
theorem RO_callv1 : RO T cx Q K b0 (⟨some d, .callv x [y], none⟩ :: rest) ⟨fr, ds, h⟩ ↔ OM (cvM T cx h (opd fr x) [opd fr y]) fun r => RO T cx Q K b0 rest ⟨fr.set d r.1, ds, r.2⟩ := RO_callv
theorem RO_callv2 : RO T cx Q K b0 (⟨some d, .callv x [y, z], none⟩ :: rest) ⟨fr, ds, h⟩ ↔ OM (cvM T cx h (opd fr x) [opd fr y, opd fr z]) fun r => RO T cx Q K b0 rest ⟨fr.set d r.1, ds, r.2⟩ := RO_callv
theorem RO_mx2 : RO T cx Q K b0 (⟨some d, .mx [x, y], none⟩ :: rest) ⟨fr, ds, h⟩ ↔ OM (foldO1 mx2 [opd fr x, opd fr y]) fun v => RO T cx Q K b0 rest ⟨fr.set d v, ds, h⟩ := RO_mx
theorem RO_mn2 : RO T cx Q K b0 (⟨some d, .mn [x, y], none⟩ :: rest) ⟨fr, ds, h⟩ ↔ OM (foldO1 mn2 [opd fr x, opd fr y]) fun v => RO T cx Q K b0 rest ⟨fr.set d v, ds, h⟩ := RO_mn
theorem RO_mkfn0 {f : Nat} : RO T cx Q K b0 (⟨some d, .mkfn f [], none⟩ :: rest) ⟨fr, ds, h⟩ ↔ RO T cx Q K b0 rest ⟨fr.set d (.fn f []), ds, h⟩ := RO_mkfn
theorem RO_mkfn1 {f : Nat} : RO T cx Q K b0 (⟨some d, .mkfn f [x], none⟩ :: rest) ⟨fr, ds, h⟩ ↔ RO T cx Q K b0 rest ⟨fr.set d (.fn f [opd fr x]), ds, h⟩ := RO_mkfn
theorem RO_slice_l {n : Nat} : RO T cx Q K b0 (⟨some d, .slice n x (some y) none none, none⟩ :: rest) ⟨fr, ds, h⟩ ↔ OM (slcM n (opd fr x) (some (opd fr y)) none none) fun v => RO T cx Q K b0 rest ⟨fr.set d v, ds, h⟩ := RO_slice
theorem RO_slice_h {n : Nat} : RO T cx Q K b0 (⟨some d, .slice n x none (some y) none, none⟩ :: rest) ⟨fr, ds, h⟩ ↔ OM (slcM n (opd fr x) none (some (opd fr y)) none) fun v => RO T cx Q K b0 rest ⟨fr.set d v, ds, h⟩ := RO_slice
theorem RO_slice_lh {n : Nat} : RO T cx Q K b0 (⟨some d, .slice n x (some y) (some z) none, none⟩ :: rest) ⟨fr, ds, h⟩ ↔ OM (slcM n (opd fr x) (some (opd fr y)) (some (opd fr z)) none) fun v => RO T cx Q K b0 rest ⟨fr.set d v, ds, h⟩ := RO_slice

def bld2 (a b : AV) : Option AV := match a.cells, b.cells with | some [x], some [y] => some (.agg [x, y]) | _, _ => none
theorem RO_build2 {p q : AV} : RO T cx Q K b0 (⟨some d, .build [p, q] [(0, 1, x), (1, 1, y)], none⟩ :: rest) ⟨fr, ds, h⟩ ↔ OM (bld2 (opd fr x) (opd fr y)) fun v => RO T cx Q K b0 rest ⟨fr.set d v, ds, h⟩ := by
  rw [RO_build]
  have e : (fill [p, q] (mkParts fr [(0, 1, x), (1, 1, y)])).map AV.agg = bld2 (opd fr x) (opd fr y) := by
    simp only [mkParts, List.map_cons, List.map_nil, fill, bld2]
    cases hx : (opd fr x).cells with
    | none => rfl
    | some l =>
      match l with
      | [] => simp
      | [a] =>
        cases hy : (opd fr y).cells with
        | none => simp [splice, fill, hy]
        | some m =>
          match m with
          | [] => simp [splice]
          | [b] => simp [splice, fill]
          | _ :: _ :: _ => simp [splice]
      | _ :: _ :: _ => simp
  rw [e]
theorem bld2_int {k k' : IntKind} {a b : Int} : bld2 (.int k a) (.int k' b) = some (.agg [.int k a, .int k' b]) := by simp [bld2, AV.cells]

def lit1M (z : List AV) (a : AV) : Option AV := match a.cells with | some cs => if cs.length = z.length then some (.fs [cs] true) else none | none => none
theorem RO_lit1 {z : List AV} : RO T cx Q K b0 (⟨some d, .lit 1 z [(0, x)], none⟩ :: rest) ⟨fr, ds, h⟩ ↔ OM (lit1M z (opd fr x)) fun v => RO T cx Q K b0 rest ⟨fr.set d v, ds, h⟩ := by
  rw [RO_lit]
  have e : (fillRow z.length (List.replicate 1 z) (mkParts' fr [(0, x)])).map (fun es => AV.fs es true) = lit1M z (opd fr x) := by
    simp only [mkParts', List.map_cons, List.map_nil, fillRow, lit1M]
    cases (opd fr x).cells with
    | none => rfl
    | some cs => by_cases hc : cs.length = z.length <;> simp [hc]
  rw [e]
def lit2M (z : List AV) (a b : AV) : Option AV := match a.cells, b.cells with | some cs, some es => if cs.length = z.length ∧ es.length = z.length then some (.fs [cs, es] true) else none | _, _ => none
theorem RO_lit2 {z : List AV} : RO T cx Q K b0 (⟨some d, .lit 2 z [(0, x), (1, y)], none⟩ :: rest) ⟨fr, ds, h⟩ ↔ OM (lit2M z (opd fr x) (opd fr y)) fun v => RO T cx Q K b0 rest ⟨fr.set d v, ds, h⟩ := by
  rw [RO_lit]
  have e : (fillRow z.length (List.replicate 2 z) (mkParts' fr [(0, x), (1, y)])).map (fun es => AV.fs es true) = lit2M z (opd fr x) (opd fr y) := by
    simp only [mkParts', List.map_cons, List.map_nil, fillRow, lit2M]
    cases (opd fr x).cells with
    | none => rfl
    | some cs =>
      by_cases hc : cs.length = z.length
      · cases (opd fr y).cells with
        | none => simp [hc]
        | some es => by_cases he : es.length = z.length <;> simp [hc, he, List.replicate]
      · cases (opd fr y).cells <;> simp [hc]
  rw [e]
theorem RO_lit0 {z : List AV} : RO T cx Q K b0 (⟨some d, .lit 0 z [], none⟩ :: rest) ⟨fr, ds, h⟩ ↔ RO T cx Q K b0 rest ⟨fr.set d (.fs [] true), ds, h⟩ := by
  rw [RO_lit]; rfl
theorem lit2_int {k k' : IntKind} {a b : Int} {z : AV} : lit2M [z] (.int k a) (.int k' b) = some (.fs [[.int k a], [.int k' b]] true) := by simp [lit2M, AV.cells]
theorem lit1_agg {z cs : List AV} (hz : cs.length = z.length) : lit1M z (.agg cs) = some (.fs [cs] true) := by simp [lit1M, AV.cells, hz]
end
end Go.AM
end
