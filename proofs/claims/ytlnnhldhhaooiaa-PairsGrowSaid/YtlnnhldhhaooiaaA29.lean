import Derived.Test.YtlnnhldhhaooiaaA28

set_option linter.unusedVariables false
set_option linter.unusedSimpArgs false
set_option linter.unusedSectionVars false
set_option linter.unnecessarySimpa false

section
/- One operation of a region. -/
namespace Go.AM
open Go

variable {Γ : Env} {wp : Nat} {κ κ' κ'' : K} {H H1 Hf H' : Heap} {w w' : World} {rec : Ctx → AC → St → Option (Ex × St)}

theorem FR.put {fr : List AV} {a : Go.Act} (h : FR κ w fr a.tmps) {x : AV} {v : Value} (hv : V κ w x v) (dst : Option Nat) : FR κ w (put fr dst x) (a.put dst v).tmps := by
  cases dst with
  | none => exact h
  | some d => exact h.set hv d

theorem put_defers (a : Go.Act) (dst : Option Tmp) (v : Value) : (a.put dst v).defers = a.defers := by cases dst <;> rfl

theorem wanted_snd {ops : Array Oper} {o : Oper} {fr : List AV} {tmps : Array Value} (hf : FR κ w fr tmps) {g : Option (Nat × Bool)} (hg : trG ops o.guard = some g) {b : Bool} (hw : wanted fr g = some b) : Region.wanted o (yielded ops tmps) = b := by
  unfold trG at hg
  split at hg
  · rename_i he
    injection hg with hg
    subst hg
    simp [wanted] at hw
    subst hw
    simp [Region.wanted, he]
  · rename_i j want he
    split at hg
    · rename_i t ht
      injection hg with hg
      subst hg
      simp only [wanted] at hw
      have hv := hf.get t
      split at hw
      · rename_i b' hb
        injection hw with hw
        subst hw
        rw [hb] at hv
        have hlt : (t : Nat) < tmps.size := by
          rcases Nat.lt_or_ge (t : Nat) tmps.size with h | h
          · exact h
          · rw [List.getD_eq_getElem?_getD, List.getElem?_eq_none (by rw [hf.1]; exact h)] at hb
            cases hb
        have hv' : tmps[t]? = some (.bool b') := by
          have : tmps.getD t undef = .bool b' := hv
          simp [Array.getD_eq_getD_getElem?, hlt] at this
          simp [hlt, this]
        simp only [Region.wanted, he, yielded, ht, Option.bind_some, hv']
        cases b' <;> cases want <;> rfl
      · rename_i vs hb
        injection hw with hw
        subst hw
        rw [hb] at hv
        obtain ⟨us, hv, _⟩ := hv
        have hlt : (t : Nat) < tmps.size := by
          rcases Nat.lt_or_ge (t : Nat) tmps.size with h | h
          · exact h
          · rw [List.getD_eq_getElem?_getD, List.getElem?_eq_none (by rw [hf.1]; exact h)] at hb
            cases hb
        have hv' : tmps[t]? = some (.tuple us) := by
          simp [Array.getD_eq_getD_getElem?, hlt] at hv
          simp [hlt, hv]
        simp only [Region.wanted, he, yielded, ht, Option.bind_some, hv']
        cases want <;> rfl
      · cases hw
    · cases hg

def wpStep (F : Fence) (n : Nat) (P : Program) (ops : Array Oper) (o : Oper) (a : Go.Act) (w : World) (K : Go.Act → World → Prop) (Q : Exit → Go.Act → World → Prop) : Prop :=
  if Region.wanted o (yielded ops a.tmps) then o.wpIn F n P a w K Q else (∀ f, o.about P w a.eval = some f → F.fn f) ∧ K (a.put o.dst undef) w

theorem eval_snd {fr : List AV} {a : Go.Act} (hf : FR κ w fr a.tmps) : ∀ (x : Operand) (y : Opd), trO x = some y → V κ w (opd fr y) (a.eval x) := fun _ _ h => opd_sound hf h

theorem trOp_no_defer {P : Program} {o : Oper} {ao : AOp} (h : trOp P o.op = some ao) : ∀ c, o.op ≠ .defer c := by
  intro c e
  have h := (trOp_some h).1
  rw [e] at h
  simp [trOp0] at h

/-- What a call of a function value leads to. -/
theorem run_callv {P : Program} {ρ : Operand → Value} {c : Call} {ty : TypeId} {g : Operand} (hc : c.callee = .value g) {f : Fn} {first cap : Array Value} (hg : ρ g = .func f first cap) :
    ((do let d ← resolve ρ c ty; invoke d.target d.args) : Sem Next).run P w = (invoke (.fn f cap) (first ++ c.args.map ρ)).run P w := by
  simp [resolve, hc, Deferred.ofValue, hg]

theorem run_callFunc {f : FuncId} {fn : Func} {c : Code} (h : CodeFn Γ f fn c) (args : Array Value) : (callFunc f args).run Γ.P w = .ok (.enter f args) w := by
  obtain ⟨h1, h2, h3⟩ := h
  have h3' : fn.name ≠ "runtime.NumGoroutine" := by simpa using h3
  simp [callFunc, h1, h2, h3']

theorem act_call {fr : List AV} {b0 : Nat} {ao : AOp} {f : Nat} {args : List AV} (h : act fr b0 ao = some (.call f args)) : (∃ as, ao = .callf f as ∧ args = as.map (opd fr)) ∨ ∃ g as cap, ao = .callv g as ∧ opd fr g = .fn f cap ∧ args = as.map (opd fr) ++ cap := by
  cases ao
  case callf f' as =>
    simp only [act, Option.some.injEq, Act.call.injEq] at h
    obtain ⟨rfl, rfl⟩ := h
    exact .inl ⟨as, rfl, rfl⟩
  case callv g as =>
    simp only [act] at h
    split at h
    · rename_i f' cap he
      injection h with h
      injection h with h1 h2
      subst h1; subst h2
      exact .inr ⟨g, as, cap, rfl, he, rfl⟩
    · injection h with h; cases h
    · cases h
  all_goals
    exfalso
    simp only [act] at h
    repeat' split at h
    all_goals first
      | (cases h; done)
      | (injection h with h; cases h; done)
      | (obtain ⟨_, _, h⟩ := Option.map_eq_some_iff.1 h; cases h; done)

theorem act_round {fr : List AV} {b0 : Nat} {ao : AOp} {l : Nat} {args : List AV} (h : act fr b0 ao = some (.round l args)) : ∃ g as, ao = .callv g as ∧ opd fr g = .yld l ∧ args = as.map (opd fr) := by
  cases ao
  case callv g as =>
    simp only [act] at h
    split at h
    · injection h with h; cases h
    · rename_i l' he
      injection h with h
      injection h with h1 h2
      subst h1; subst h2
      exact ⟨g, as, rfl, he, rfl⟩
    · cases h
  all_goals
    exfalso
    simp only [act] at h
    repeat' split at h
    all_goals first
      | (cases h; done)
      | (injection h with h; cases h; done)
      | (obtain ⟨_, _, h⟩ := Option.map_eq_some_iff.1 h; cases h; done)

theorem trCall_f {P : Program} {c : Call} {f : Nat} {as : List Opd} (h : trCall P c = some (.callf f as)) : c.callee = .value (.func f) ∧ trOs c.args = some as := by
  unfold trCall at h
  obtain ⟨args, hargs, h'⟩ := bind_some' h
  clear h
  split at h'
  · rename_i f' hc
    injection h' with h
    injection h with h1 h2
    subst h1; subst h2
    exact ⟨hc, hargs⟩
  · obtain ⟨_, _, h⟩ := bind_some' h'
    injection h with h; cases h
  · cases h'
  · exfalso
    split at h'
    · obtain ⟨_, _, h'⟩ := bind_some' h'
      obtain ⟨_, _, h'⟩ := bind_some' h'
      split at h'
      · obtain ⟨_, _, h'⟩ := bind_some' h'
        split at h'
        · cases h'
        · obtain ⟨_, _, h'⟩ := bind_some' h'
          injection h' with h'; cases h'
      · obtain ⟨_, _, h'⟩ := bind_some' h'
        obtain ⟨_, _, h'⟩ := bind_some' h'
        split at h'
        · obtain ⟨_, _, h'⟩ := bind_some' h'
          obtain ⟨_, _, h'⟩ := bind_some' h'
          injection h' with h'; cases h'
        · cases h'
      · obtain ⟨_, _, h'⟩ := bind_some' h'
        obtain ⟨_, _, h'⟩ := bind_some' h'
        injection h' with h'; cases h'
      · cases h'
    · obtain ⟨_, _, h'⟩ := bind_some' h'
      obtain ⟨_, _, h'⟩ := bind_some' h'
      injection h' with h'; cases h'
    · obtain ⟨_, _, h'⟩ := bind_some' h'
      obtain ⟨_, _, h'⟩ := bind_some' h'
      injection h' with h'; cases h'
    · obtain ⟨_, _, h'⟩ := bind_some' h'
      split at h' <;> first
        | (cases h'; done)
        | (injection h' with h'; cases h')
    · obtain ⟨_, _, h'⟩ := bind_some' h'
      split at h' <;> first
        | (cases h'; done)
        | (injection h' with h'; cases h')
    · injection h' with h'; cases h'
    · injection h' with h'; cases h'
    · cases h'

theorem trCall_v {P : Program} {c : Call} {g : Opd} {as : List Opd} (h : trCall P c = some (.callv g as)) : ∃ g', c.callee = .value g' ∧ trO g' = some g ∧ trOs c.args = some as := by
  unfold trCall at h
  obtain ⟨args, hargs, h'⟩ := bind_some' h
  clear h
  split at h'
  · injection h' with h
    cases h
  · rename_i g' hne hc
    obtain ⟨y, hy, h⟩ := bind_some' h'
    injection h with h
    injection h with h1 h2
    subst h1; subst h2
    exact ⟨g', hc, hy, hargs⟩
  · cases h'
  · exfalso
    split at h'
    · obtain ⟨_, _, h'⟩ := bind_some' h'
      obtain ⟨_, _, h'⟩ := bind_some' h'
      split at h'
      · obtain ⟨_, _, h'⟩ := bind_some' h'
        split at h'
        · cases h'
        · obtain ⟨_, _, h'⟩ := bind_some' h'
          injection h' with h'; cases h'
      · obtain ⟨_, _, h'⟩ := bind_some' h'
        obtain ⟨_, _, h'⟩ := bind_some' h'
        split at h'
        · obtain ⟨_, _, h'⟩ := bind_some' h'
          obtain ⟨_, _, h'⟩ := bind_some' h'
          injection h' with h'; cases h'
        · cases h'
      · obtain ⟨_, _, h'⟩ := bind_some' h'
        obtain ⟨_, _, h'⟩ := bind_some' h'
        injection h' with h'; cases h'
      · cases h'
    · obtain ⟨_, _, h'⟩ := bind_some' h'
      obtain ⟨_, _, h'⟩ := bind_some' h'
      injection h' with h'; cases h'
    · obtain ⟨_, _, h'⟩ := bind_some' h'
      obtain ⟨_, _, h'⟩ := bind_some' h'
      injection h' with h'; cases h'
    · obtain ⟨_, _, h'⟩ := bind_some' h'
      split at h' <;> first
        | (cases h'; done)
        | (injection h' with h'; cases h')
    · obtain ⟨_, _, h'⟩ := bind_some' h'
      split at h' <;> first
        | (cases h'; done)
        | (injection h' with h'; cases h')
    · injection h' with h'; cases h'
    · injection h' with h'; cases h'
    · cases h'

theorem step_snd (hT : TabOk Γ) (hrec : CodeSnd Γ rec) {cx : Ctx} {b0 : Nat} {ops : Array Oper} {o : Oper} {ao : AO} {st st1 : St} {fp : Fp} (hs : stepO Γ.T rec cx b0 ao st = some (st1, fp)) (hdst : ao.dst = o.dst) (hg : trG ops o.guard = some ao.guard) (hop : trOp Γ.P o.op = some ao.op)
    {F : Fence} (hF : FOk cx κ F) (hi : HInv Γ κ st.h w) {a : Go.Act} (hf : FR κ w st.fr a.tmps) {n : Nat} {Q : Exit → Go.Act → World → Prop} {K : Go.Act → World → Prop}
    (hK : ∀ κ' w' a', Le κ w κ' w' → Fr cx.wp κ st.h w κ' st1.h w' → HInv Γ κ' st1.h w' → FR κ' w' st1.fr a'.tmps → a'.defers = a.defers → K a' w') :
    wpStep F n Γ.P ops o a w K Q := by
  have habout : ∀ f, o.about Γ.P w a.eval = some f → F.fn f := fun f _ => hF.fn f
  unfold stepO at hs
  split at hs
  · rename_i hw
    obtain ⟨ac, h1, hs⟩ := bind_some' hs
    obtain ⟨⟨v, H1⟩, h2, hs⟩ := bind_some' hs
    injection hs with hs
    injection hs with hs _
    subst hs
    have hwd := wanted_snd hf hg hw
    unfold wpStep
    rw [hwd, if_pos rfl]
    refine ⟨habout, ?_⟩
    rw [Oper.semAt_eq F.round a.eval o (trOp_no_defer hop)]
    have done : Out Γ cx.wp κ st.h w H1 v ((execOp a.eval o).run Γ.P w) → o.uponIn F n Γ.P a K Q ((execOp a.eval o).run Γ.P w) := by
      rintro ⟨u, κ', w', hr, l1, ⟨f1, i1⟩, v1⟩
      have hfin : K (a.put o.dst u) w' := hK κ' w' _ l1 f1 i1 (by rw [hdst]; exact (hf.le l1).put v1 o.dst) (put_defers _ _ _)
      rcases hr with hr | ⟨hr, hu⟩
      · rw [hr]; exact hfin
      · rw [hr]; subst hu; exact hfin
    have calls : ∀ f args (vs : List Value), ac = .call f args → VL κ w args vs → (execOp a.eval o).run Γ.P w = .ok (.enter f vs.toArray) w → o.uponIn F n Γ.P a K Q ((execOp a.eval o).run Γ.P w) := by
      intro f args vs he hv hr
      subst he
      simp only [doAct] at h2
      rw [hr, Oper.uponIn_enter]
      refine ⟨fun h => (by rw [hF.depth] at h; cases h), hF.calls ((callF_snd hT hrec h2 hi hv (n - 1)).mono fun e w' he => ?_)⟩
      cases e with
      | returned u =>
        obtain ⟨κ', l1, f1, i1, v1⟩ := he
        exact hK κ' w' _ l1 f1 i1 (by rw [hdst]; exact (hf.le l1).put v1 o.dst) (put_defers _ _ _)
      | panicked _ => exact he.elim
      | outgrown => exact he.elim
    have known : ∀ f args, ac = .call f args → ∃ fn c, CodeFn Γ f fn c := by
      intro f args he
      subst he
      simp only [doAct, callF] at h2
      split at h2
      · rename_i a' hf'
        obtain ⟨fn, c, c1, _⟩ := hT.code f a' hf'
        exact ⟨fn, c, c1⟩
      · rename_i p hf'
        exact (hT.prim f p hf').1
      · cases h2
    have hex : ∀ c, o.op = .call c → (execOp a.eval o).run Γ.P w = ((do let d ← resolve a.eval c o.type; invoke d.target d.args) : Sem Next).run Γ.P w := by
      intro c hc
      simp only [execOp, hc]
    by_cases hcall : ∃ f args, ac = .call f args
    · obtain ⟨f, args, rfl⟩ := hcall
      obtain ⟨fn, cd, hcf⟩ := known f args rfl
      obtain ⟨ht0, hic⟩ := trOp_some hop
      rcases act_call h1 with ⟨as, hao, rfl⟩ | ⟨g, as, cap, hao, hg', rfl⟩
      · obtain ⟨c, hc⟩ := hic (by rw [hao]; rfl)
        rw [hc] at ht0
        simp only [trOp0] at ht0
        rw [hao] at ht0
        obtain ⟨hcc, hargs⟩ := trCall_f ht0
        have hv : VL κ w (as.map (opd st.fr)) (c.args.toList.map a.eval) := VL.map hargs (eval_snd hf)
        refine calls f _ (c.args.toList.map a.eval) rfl hv ?_
        rw [hex c hc, run_callv (P := Γ.P) hcc (f := .func f) (first := #[]) (cap := #[]) rfl]
        have e : (#[] ++ c.args.map a.eval : Array Value) ++ #[] = (c.args.toList.map a.eval).toArray := by
          apply Array.ext'
          simp
        simp only [invoke]
        rw [e]
        exact run_callFunc hcf _
      · obtain ⟨c, hc⟩ := hic (by rw [hao]; rfl)
        rw [hc] at ht0
        simp only [trOp0] at ht0
        rw [hao] at ht0
        obtain ⟨g', hcc, hgg, hargs⟩ := trCall_v ht0
        have hvg := eval_snd hf g' g hgg
        rw [hg'] at hvg
        obtain ⟨cvs, hgv, hcap⟩ := hvg
        have hv : VL κ w (as.map (opd st.fr) ++ cap) (c.args.toList.map a.eval ++ cvs.toList) := (VL.map hargs (eval_snd hf)).append hcap
        refine calls f _ _ rfl hv ?_
        rw [hex c hc, run_callv (P := Γ.P) hcc hgv]
        have e : (#[] ++ c.args.map a.eval : Array Value) ++ cvs = (c.args.toList.map a.eval ++ cvs.toList).toArray := by
          apply Array.ext'
          simp
        simp only [invoke]
        rw [e]
        exact run_callFunc hcf _
    · by_cases hround : ∃ l args, ac = .round l args
      · obtain ⟨l, args, rfl⟩ := hround
        obtain ⟨ht0, hic⟩ := trOp_some hop
        obtain ⟨g, as, hao, hg', rfl⟩ := act_round h1
        obtain ⟨c, hc⟩ := hic (by rw [hao]; rfl)
        rw [hc] at ht0
        simp only [trOp0] at ht0
        rw [hao] at ht0
        obtain ⟨g', hcc, hgg, hargs⟩ := trCall_v ht0
        have hvg := eval_snd hf g' g hgg
        rw [hg'] at hvg
        obtain ⟨gb, bb, zz, hkb, hgv⟩ := hvg
        have hv : VL κ w (as.map (opd st.fr)) (c.args.toList.map a.eval) := VL.map hargs (eval_snd hf)
        simp only [doAct] at h2
        obtain ⟨r, r1, r2, r3⟩ := roundF_snd hrec h2 hi hkb hv (n - 1) hF
        have e : (#[] ++ c.args.map a.eval : Array Value) = (c.args.toList.map a.eval).toArray := by
          apply Array.ext'
          simp
        have hr : (execOp a.eval o).run Γ.P w = .ok (.round gb r.fn ((r.params.zip (c.args.toList.map a.eval).toArray).foldl (fun tmps (t, a) => tmps.setIfInBounds t a) r.tmps) r.assign r.body) w := by
          rw [hex c hc, run_callv (P := Γ.P) hcc hgv]
          simp only [invoke]
          rw [e]
          exact run_yield r1 r2
        rw [hr, Oper.uponIn_round]
        refine ⟨fun h => (by rw [hF.depth] at h; cases h), r3.mono fun e w' he => ?_⟩
        cases e with
        | returned u =>
          obtain ⟨κ', l1, f1, i1, v1⟩ := he
          exact hK κ' w' _ l1 f1 i1 (by rw [hdst]; exact (hf.le l1).put v1 o.dst) (put_defers _ _ _)
        | panicked _ => exact he.elim
        | outgrown => exact he.elim
      · exact done (op_sound (P := Γ.P) (eval_snd hf) hi hop ⟨ac, h1, fun f l e => hcall ⟨f, l, e⟩, fun l as e => hround ⟨l, as, e⟩, h2⟩)
  · rename_i hw
    injection hs with hs
    injection hs with hs _
    subst hs
    have hwd := wanted_snd hf hg hw
    unfold wpStep
    rw [hwd]
    simp only [Bool.false_eq_true, if_false]
    exact ⟨habout, hK κ w _ (Le.refl _ _) (Fr.refl _ _ _ _) hi (by rw [hdst]; exact hf.put (x := .tup []) ⟨#[], rfl, rfl⟩ o.dst) (put_defers _ _ _)⟩
  · cases hs

end Go.AM
end
