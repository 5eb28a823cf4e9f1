import Derived.Test.YtlnnhldhhaooiaaA26
import Derived.RangeFuncRecord

set_option linter.unusedVariables false
set_option linter.unusedSimpArgs false
set_option linter.unusedSectionVars false
set_option linter.unnecessarySimpa false

section
/- Calls: the relations; leaving. -/
namespace Go.AM
open Go

variable {Γ : Env} {wp : Nat} {κ κ' κ'' : K} {H H1 Hf H' : Heap} {w w' : World}

/-- What a call comes to. -/
def Post (Γ : Env) (wp : Nat) (κ : K) (H : Heap) (w : World) (H' : Heap) (v : AV) : Ending → World → Prop
  | .returned u, w' => ∃ κ', Le κ w κ' w' ∧ Fr wp κ H w κ' H' w' ∧ HInv Γ κ' H' w' ∧ V κ' w' v u
  | _, _ => False

def CodeFn (Γ : Env) (f : Nat) (fn : Func) (c : Code) : Prop := Γ.P.funcs[f]? = some fn ∧ fn.body = some c ∧ (fn.name == "runtime.NumGoroutine") = false

structure TabOk (Γ : Env) : Prop where
  mixed : Γ.P.follows .mixedOrders = true
  M : ∀ f, Γ.M f = true → Γ.T.pure f = true
  code : ∀ f a, Γ.T.fn f = some (.code a) → ∃ fn c, CodeFn Γ f fn c ∧ fn.ntmps = a.ntmps ∧ mapO (trRes Γ.P) fn.results.toList = some a.res ∧ trC Γ.P Γ.M f c = strip a.body ∧ LoopsOk Γ f c
  prim : ∀ f p, Γ.T.fn f = some (.prim p) → (∃ fn c, CodeFn Γ f fn c) ∧ ∀ args H v H' κ w vs wp n, p wp args H = some (v, H') → HInv Γ κ H w → VL κ w args vs → CallsIn Fence.wide n Γ.P f vs.toArray w (Post Γ wp κ H w H' v)

/-- The marks of an activation. -/
def Mk (κ : K) : List Nat → List Deferred → Prop
  | [], ds => ds = []
  | i :: is, ds => ∃ g b z rest, ds = { target := .collected g, args := #[] } :: rest ∧ κ.box i 0 = some (g, b, z) ∧ Mk κ is rest

theorem Mk.le (h : ∀ i v x, κ.box i v = some x → κ'.box i v = some x) : ∀ {is : List Nat} {ds : List Deferred}, Mk κ is ds → Mk κ' is ds
  | [], ds, hm => hm
  | i :: is, ds, hm => by
    obtain ⟨g, b, z, rest, h1, h2, h3⟩ := hm
    exact ⟨g, b, z, rest, h1, h _ _ _ h2, Mk.le h h3⟩

def Ex.to : Ex → Exit
  | .nrm => .normal
  | .exit id => .exit id
  | .ret => .ret

def FOk (cx : Ctx) (κ : K) (F : Fence) : Prop :=
  match cx.rd with
  | none => F = Fence.wide
  | some l => ∃ g b z, κ.box l 0 = some (g, b, z) ∧ F = Fence.wide.inRound g

theorem FOk.le {cx : Ctx} {F : Fence} (h : ∀ i v x, κ.box i v = some x → κ'.box i v = some x) (hf : FOk cx κ F) : FOk cx κ' F := by
  unfold FOk at *
  split at hf
  · exact hf
  · obtain ⟨g, b, z, h1, h2⟩ := hf; exact ⟨g, b, z, h _ _ _ h1, h2⟩

theorem FOk.fn {cx : Ctx} {F : Fence} (hf : FOk cx κ F) (f : FuncId) : F.fn f := by
  unfold FOk at hf
  split at hf
  · subst hf; trivial
  · obtain ⟨g, b, z, _, rfl⟩ := hf; trivial

theorem FOk.depth {cx : Ctx} {F : Fence} (hf : FOk cx κ F) : F.depth = none := by
  unfold FOk at hf
  split at hf
  · subst hf; rfl
  · obtain ⟨g, b, z, _, rfl⟩ := hf; rfl

theorem FOk.calls {cx : Ctx} {F : Fence} (hf : FOk cx κ F) {n : Nat} {P : Program} {f : FuncId} {args : Array Value} {w : World} {R : Ending → World → Prop} (h : CallsIn Fence.wide n P f args w R) : CallsIn F n P f args w R := by
  unfold FOk at hf
  split at hf
  · subst hf; exact h
  · obtain ⟨g, b, z, _, rfl⟩ := hf; exact h

/-- Code that the evaluator answers for does as it says. -/
def CodeSnd (Γ : Env) (rec : Ctx → AC → St → Option (Ex × St)) : Prop :=
  ∀ cx ac st ex st', rec cx ac st = some (ex, st') → ∀ (f : Nat) (c : Code), trC Γ.P Γ.M f c = strip ac → LoopsOk Γ f c →
    ∀ κ w (a : Go.Act) F, FOk cx κ F → HInv Γ κ st.h w → FR κ w st.fr a.tmps → Mk κ st.ds a.defers →
    ∀ n Q, (∀ κ' w' (a' : Go.Act), Le κ w κ' w' → Fr cx.wp κ st.h w κ' st'.h w' → HInv Γ κ' st'.h w' → FR κ' w' st'.fr a'.tmps → Mk κ' st'.ds a'.defers → Q ex.to a' w') →
    c.wpIn F n Γ.P Q a w

theorem mapM_snd {κ : K} {w : World} {P : Program} {g : ResultVar → Sem Value} {f : ResultVar → Option AV} : ∀ (l : List ResultVar) (as : List AV), mapO f l = some as → (∀ x ∈ l, ∀ a, f x = some a → ∃ u, (g x).run P w = .ok u w ∧ V κ w a u) → ∃ us, (l.mapM g).run P w = .ok us w ∧ VL κ w as us
  | [], as, h, _ => by simp [mapO] at h; subst h; exact ⟨[], rfl, rfl⟩
  | x :: l, as, h, hg => by
    simp only [mapO] at h
    obtain ⟨a, h1, h⟩ := bind_some' h
    obtain ⟨bs, h2, h⟩ := bind_some' h
    injection h with h
    subst h
    obtain ⟨u, u1, u2⟩ := hg x (by simp) a h1
    obtain ⟨us, v1, v2⟩ := mapM_snd l bs h2 (fun y hy => hg y (by simp [hy]))
    exact ⟨u :: us, by simp [List.mapM_cons, u1, v1], u, us, rfl, u2, v2⟩

theorem results_mapO {P : Program} {fr : List AV} {h : Heap} : ∀ (rs : List ResultVar) (res : List Res) (as : List AV), mapO (trRes P) rs = some res → results fr h res = some as → ∃ f : ResultVar → Option AV, mapO f rs = some as ∧ ∀ x a, f x = some a → ∃ r, trRes P x = some r ∧ results fr h [r] = some [a] := by
  intro rs res as hr ha
  refine ⟨fun x => (trRes P x).bind fun r => (results fr h [r]).bind fun l => l.head?, ?_, ?_⟩
  · induction rs generalizing res as with
    | nil =>
      simp [mapO] at hr
      subst hr
      simp [results] at ha
      subst ha
      rfl
    | cons x rs ih =>
      simp only [mapO] at hr
      obtain ⟨r, h1, hr⟩ := bind_some' hr
      obtain ⟨rs', h2, hr⟩ := bind_some' hr
      injection hr with hr
      subst hr
      simp only [mapO, h1, Option.bind_some]
      cases r with
      | t n =>
        simp only [results, Option.map_eq_some_iff] at ha
        obtain ⟨as', h3, rfl⟩ := ha
        simp [results, ih rs' as' h2 h3]
      | cell t ag n =>
        simp only [results] at ha
        split at ha
        · rename_i i v e f he
          obtain ⟨es, e1, ha⟩ := bind_some' ha
          obtain ⟨cs, e2, ha⟩ := bind_some' ha
          obtain ⟨y, e3, ha⟩ := bind_some' ha
          obtain ⟨ys, e4, ha⟩ := bind_some' ha
          injection ha with ha
          subst ha
          simp only [results, he, e1, e2, e3, Option.bind_eq_bind, Option.bind_some, List.head?_cons, ih rs' ys h2 e4]
        · cases ha
  · intro x a hx
    obtain ⟨r, h1, hx⟩ := Option.bind_eq_some_iff.1 hx
    obtain ⟨l, h2, hx⟩ := Option.bind_eq_some_iff.1 hx
    refine ⟨r, h1, ?_⟩
    rw [h2]
    cases r with
    | t n =>
      simp [results] at h2
      subst h2
      simp at hx
      rw [hx]
    | cell t ag n =>
      simp only [results] at h2
      split at h2
      · obtain ⟨es, e1, h2⟩ := bind_some' h2
        obtain ⟨cs, e2, h2⟩ := bind_some' h2
        obtain ⟨y, e3, h2⟩ := bind_some' h2
        obtain ⟨ys, e4, h2⟩ := bind_some' h2
        injection e4 with e4
        injection h2 with h2
        subst e4; subst h2
        simp at hx
        rw [hx]
      · cases h2

theorem FR.get {fr : List AV} {tmps : Array Value} (hf : FR κ w fr tmps) (t : Nat) : V κ w (fr.getD t .any) (tmps.getD t undef) := by
  by_cases ht : t < fr.length
  · obtain ⟨v, h1, h2⟩ := hf.2 t fr[t] (by simp [ht])
    simpa [List.getD_eq_getElem?_getD, ht, Array.getD_eq_getD_getElem?, h1] using h2
  · rw [List.getD_eq_getElem?_getD, List.getElem?_eq_none (Nat.le_of_not_lt ht)]
    trivial

theorem results_snd {P : Program} (hi : HInv Γ κ H w) {fr : List AV} {tmps : Array Value} (hf : FR κ w fr tmps) {fn : Func} {res : List Res} (hr : mapO (trRes P) fn.results.toList = some res) {v : AV} (hv : result fr H res = some v) :
    ∃ u, (Go.results fn tmps).run P w = .ok u w ∧ V κ w v u := by
  unfold result at hv
  obtain ⟨as, ha, rfl⟩ := Option.map_eq_some_iff.1 hv
  obtain ⟨f, h1, h2⟩ := results_mapO _ _ _ hr ha
  obtain ⟨us, u1, u2⟩ := mapM_snd (P := P) (κ := κ) (w := w) (g := fun
    | .tmp t => pure (tmps.getD t undef)
    | .cell a t => do loadVar t (← asAddr (tmps.getD a undef))) fn.results.toList as h1 (fun x hx a hfa => by
      obtain ⟨r, r1, r2⟩ := h2 x a hfa
      cases x with
      | tmp t =>
        simp [trRes] at r1
        subst r1
        simp [results] at r2
        subst r2
        exact ⟨_, rfl, by simpa using hf.get t⟩
      | cell t ty =>
        simp only [trRes] at r1
        obtain ⟨ag, a1, r1⟩ := bind_some' r1
        obtain ⟨n, a2, r1⟩ := bind_some' r1
        injection r1 with r1
        subst r1
        simp only [results] at r2
        split at r2
        · rename_i i ver e f' he
          obtain ⟨es, e1, r2⟩ := bind_some' r2
          obtain ⟨cs, e2, r2⟩ := bind_some' r2
          obtain ⟨y, e3, r2⟩ := bind_some' r2
          simp at r2
          subst r2
          have hvt := hf.get t
          rw [he] at hvt
          obtain ⟨u, q1, q2⟩ := load_sound (P := P) hi a1 a2 hvt e1 e2 e3
          obtain ⟨g, b, z, _, e4⟩ := hvt
          rw [e4] at q1
          refine ⟨u, ?_, q2⟩
          simp only []
          rw [e4]
          simpa [Instr.loadAt, Instr.sureAddr, asAddr] using q1
        · cases r2)
  have hl := u2.length
  have hrun : (fn.results.mapM fun
    | .tmp t => pure (tmps.getD t undef)
    | .cell a t => do loadVar t (← asAddr (tmps.getD a undef)) : Sem (Array Value)).run P w = .ok us.toArray w := by
    rw [Array.mapM_eq_mapM_toList]
    simp only [map_eq_pure_bind, Sem.run_bind]
    rw [u1]
    rfl
  have key : (Go.results fn tmps).run P w = (pure (if h : us.toArray.size = 1 then us.toArray[0] else Value.tuple us.toArray) : Sem Value).run P w := by
    unfold Go.results
    rw [Sem.run_bind]
    exact congrArg (fun (r : Result (Array Value)) => r.andThen fun a w' => (pure (if h : a.size = 1 then a[0] else Value.tuple a) : Sem Value).run P w') hrun
  cases as with
  | nil =>
    have : us = [] := List.eq_nil_of_length_eq_zero hl.symm
    subst this
    exact ⟨.tuple #[], key, #[], rfl, rfl⟩
  | cons x as =>
    obtain ⟨y, ys, rfl, h3, h4⟩ := u2
    cases as with
    | nil =>
      cases h4
      exact ⟨y, key, h3⟩
    | cons x2 as =>
      obtain ⟨y2, ys, rfl, h5, h6⟩ := h4
      refine ⟨.tuple (y :: y2 :: ys).toArray, ?_, _, rfl, y, y2 :: ys, rfl, h3, y2, ys, rfl, h5, h6⟩
      rw [key, dif_neg (by simp)]
      rfl

end Go.AM
end
