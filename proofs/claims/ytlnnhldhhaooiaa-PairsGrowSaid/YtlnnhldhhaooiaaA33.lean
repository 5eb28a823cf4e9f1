import Derived.Test.YtlnnhldhhaooiaaA32
import Derived.RangeFuncNested

set_option linter.unusedVariables false
set_option linter.unusedSimpArgs false
set_option linter.unusedSectionVars false
set_option linter.unnecessarySimpa false

section
/- All code: the evaluator is sound. -/
namespace Go.AM
open Go

variable {Γ : Env} {wp : Nat} {κ κ' κ'' : K} {H H1 Hf H' : Heap} {w w' : World} {rec : Ctx → AC → St → Option (Ex × St)}

theorem FR.kill {fr : List AV} {tmps : Array Value} (h : FR κ w fr tmps) (ts : List Nat) : FR κ w (killT fr ts) tmps := by
  induction ts generalizing fr with
  | nil => exact h
  | cons t ts ih =>
    simp only [killT]
    refine ih ⟨by simp [h.1], fun s b hb => ?_⟩
    rcases set_get hb with ⟨rfl, rfl⟩ | ⟨_, hb⟩
    · have hl := (List.getElem?_eq_some_iff.1 hb).1
      simp at hl
      have := h.1
      exact ⟨tmps[t], by simp [show t < tmps.size by omega], trivial⟩
    · exact h.2 s b hb

theorem trRegion_form {P : Program} {M : Nat → Bool} {ops : Array Oper} {draw : Bool} : trRegion P M ops draw = .bad ∨ ∃ aos pre u, trRegion P M ops draw = .region aos pre u := by
  unfold trRegion
  cases draw with
  | false => exact .inr ⟨_, _, _, rfl⟩
  | true =>
    simp only [if_true]
    split
    · split
      · exact .inr ⟨_, _, _, rfl⟩
      · exact .inl rfl
    · exact .inl rfl

theorem trC_region {P : Program} {M : Nat → Bool} {f : Nat} {c : Code} {aos : List AO} {pre : List (List AV)} {u : List (Nat × Nat)} (h : trC P M f c = .region aos pre u) : ∃ id ops draw, c = .region id ops draw ∧ trRegion P M ops draw = .region aos pre u := by
  cases c <;> simp only [trC] at h <;> first
    | (cases h; done)
    | (split at h <;> cases h; done)
    | exact ⟨_, _, _, rfl, h⟩

theorem trC_skip {P : Program} {M : Nat → Bool} {f : Nat} {c : Code} (h : trC P M f c = .skip) : c = .skip := by
  cases c <;> simp only [trC] at h <;> first
    | rfl
    | (cases h; done)
    | (split at h <;> cases h; done)
    | (rcases trRegion_form (P := P) (M := M) (ops := by assumption) (draw := by assumption) with e | ⟨_, _, _, e⟩ <;> rw [e] at h <;> cases h; done)

theorem trC_seq {P : Program} {M : Nat → Bool} {f : Nat} {c : Code} {x y : AC} (h : trC P M f c = .seq x y) : ∃ a b, c = .seq a b ∧ trC P M f a = x ∧ trC P M f b = y := by
  cases c <;> simp only [trC] at h <;> first
    | (injection h with h1 h2; exact ⟨_, _, rfl, h1, h2⟩)
    | (cases h; done)
    | (split at h <;> cases h; done)
    | (rcases trRegion_form (P := P) (M := M) (ops := by assumption) (draw := by assumption) with e | ⟨_, _, _, e⟩ <;> rw [e] at h <;> cases h; done)

theorem trC_cond {P : Program} {M : Nat → Bool} {f : Nat} {c : Code} {o : Opd} {x y : AC} (h : trC P M f c = .cond o x y) : ∃ v a b, c = .cond v a b ∧ trO v = some o ∧ trC P M f a = x ∧ trC P M f b = y := by
  cases c <;> simp only [trC] at h <;> first
    | (cases h; done)
    | (split at h
       · rename_i o' ho
         injection h with h0 h1 h2
         subst h0
         exact ⟨_, _, _, rfl, ho, h1, h2⟩
       · cases h)
    | (split at h <;> cases h; done)
    | (rcases trRegion_form (P := P) (M := M) (ops := by assumption) (draw := by assumption) with e | ⟨_, _, _, e⟩ <;> rw [e] at h <;> cases h; done)

theorem trC_block {P : Program} {M : Nat → Bool} {f : Nat} {c : Code} {id : Nat} {x : AC} (h : trC P M f c = .block id x) : ∃ a, c = .block id a ∧ trC P M f a = x := by
  cases c <;> simp only [trC] at h <;> first
    | (injection h with h1 h2; subst h1; exact ⟨_, rfl, h2⟩)
    | (cases h; done)
    | (split at h <;> cases h; done)
    | (rcases trRegion_form (P := P) (M := M) (ops := by assumption) (draw := by assumption) with e | ⟨_, _, _, e⟩ <;> rw [e] at h <;> cases h; done)

theorem trC_loop {P : Program} {M : Nat → Bool} {f : Nat} {c : Code} {x : AC} (h : trC P M f c = .loop x) : ∃ a, c = .loop a ∧ trC P M f a = x := by
  cases c <;> simp only [trC] at h <;> first
    | (injection h with h2; exact ⟨_, rfl, h2⟩)
    | (cases h; done)
    | (split at h <;> cases h; done)
    | (rcases trRegion_form (P := P) (M := M) (ops := by assumption) (draw := by assumption) with e | ⟨_, _, _, e⟩ <;> rw [e] at h <;> cases h; done)

theorem trC_exit {P : Program} {M : Nat → Bool} {f : Nat} {c : Code} {id : Nat} (h : trC P M f c = .exit id) : c = .exit id := by
  cases c <;> simp only [trC] at h <;> first
    | (injection h with h1; subst h1; rfl)
    | (cases h; done)
    | (split at h <;> cases h; done)
    | (rcases trRegion_form (P := P) (M := M) (ops := by assumption) (draw := by assumption) with e | ⟨_, _, _, e⟩ <;> rw [e] at h <;> cases h; done)

theorem trC_ret {P : Program} {M : Nat → Bool} {f : Nat} {c : Code} (h : trC P M f c = .ret) : c = .ret := by
  cases c <;> simp only [trC] at h <;> first
    | rfl
    | (cases h; done)
    | (split at h <;> cases h; done)
    | (rcases trRegion_form (P := P) (M := M) (ops := by assumption) (draw := by assumption) with e | ⟨_, _, _, e⟩ <;> rw [e] at h <;> cases h; done)

theorem trC_rangef {P : Program} {M : Nat → Bool} {f : Nat} {c : Code} {lid : Nat} {o : Opd} (h : trC P M f c = .rangef lid o) : ∃ g ps a b, c = .rangeFunc g ps a b ∧ trO g = some o ∧ lid = lidOf f ps := by
  cases c <;> simp only [trC] at h <;> first
    | (cases h; done)
    | (split at h
       · rename_i o' ho
         injection h with h0 h1
         subst h1
         exact ⟨_, _, _, _, rfl, ho, h0.symm⟩
       · cases h)
    | (split at h <;> cases h; done)
    | (rcases trRegion_form (P := P) (M := M) (ops := by assumption) (draw := by assumption) with e | ⟨_, _, _, e⟩ <;> rw [e] at h <;> cases h; done)

theorem exists_min {p : Nat → Prop} (h : ∃ j, p j) : ∃ j, p j ∧ ∀ i, p i → j ≤ i := by
  obtain ⟨j, hj⟩ := h
  induction j using Nat.strongRecOn with
  | _ j ih =>
    by_cases hs : ∃ i, i < j ∧ p i
    · obtain ⟨i, h1, h2⟩ := hs
      exact ih i h1 h2
    · refine ⟨j, hj, fun i hi => ?_⟩
      rcases Nat.lt_or_ge i j with h | h
      · exact absurd ⟨i, h, hi⟩ hs
      · exact h

open Classical in
/-- A loop, by a count that goes down. -/
theorem loop_count {F : Fence} {n : Nat} {P : Program} {Q : Exit → Go.Act → World → Prop} {c : Code} (I : Nat → Go.Act → World → Prop)
    (round : ∀ j a w, I j a w → c.wpIn F n P (Exit.then (fun a' w' => ∃ j', j' < j ∧ I j' a' w') Q) a w) {j : Nat} {a : Go.Act} {w : World} (h : I j a w) : (Code.loop c).wpIn F n P Q a w := by
  let μ : Go.Act → World → Nat := fun a w => if h : ∃ j, I j a w then Classical.choose (exists_min h) else 0
  have hμ : ∀ a w (h : ∃ j, I j a w), I (μ a w) a w ∧ ∀ i, I i a w → μ a w ≤ i := by
    intro a w h
    have := Classical.choose_spec (exists_min h)
    simp only [μ, dif_pos h]
    exact this
  refine wpIn_loop (I := fun a w => ∃ j, I j a w) μ ⟨j, h⟩ fun a w hI => ?_
  obtain ⟨h1, h2⟩ := hμ a w hI
  refine wpIn_mono (round _ a w h1) fun e a' w' hq => ?_
  cases e with
  | normal =>
    obtain ⟨j', hlt, hj'⟩ := hq
    have hex : ∃ j, I j a' w' := ⟨j', hj'⟩
    exact ⟨hex, Nat.lt_of_le_of_lt ((hμ a' w' hex).2 j' hj') hlt⟩
  | exit id => exact hq
  | goto l => exact hq
  | ret => exact hq
  | panic ch => exact hq
  | outgrown => exact hq

theorem Fr.dead {H1 : Heap} {w'' : World} (h : Fr wp κ H w κ' H1 w') (hi1 : HInv Γ κ' H1 w') {l : Nat} (hl : H.length ≤ l) {bx : Box} (hbx : H1[l]? = some bx) (hlive : bx.live = true) {g b z : Nat} (hk : κ'.box l bx.ver = some (g, b, z)) {o : Obj} (hp : Put w' w'' g o) :
    Fr wp κ H w κ' (H1.set l .dead) w'' where
  len := by rw [List.length_set]; exact h.len
  at_ i hi := by
    rcases h.at_ i hi with ⟨h1, h2, h3⟩ | h1
    · refine .inl ⟨h1, by rw [List.getElem?_set_ne (by omega)]; exact h2, fun bi g' b' z' e1 e2 e3 => ?_⟩
      have hne : g' ≠ g := hi1.disj i l bi bx (h2.trans e1) hbx (by omega) e2 hlive _ _ _ _ _ _ ((h1 _).trans e3) hk
      exact (hp.other g' hne).trans (h3 bi g' b' z' e1 e2 e3)
    · exact .inr h1

/-- A range over a function, once its record lies. -/
theorem range_end (hT : TabOk Γ) (hrec : CodeSnd Γ rec) {cx : Ctx} {F : Fence} (hF : FOk cx κ F) {κ1 : K} {w1 : World} {H1 : Heap} {l : Nat} (hl : H.length ≤ l) (l1 : Le κ w κ1 w1) (f1 : Fr cx.wp κ H w κ1 H1 w1) (i1 : HInv Γ κ1 H1 w1) {gb b z : Nat} (hk1 : κ1.box l 0 = some (gb, b, z))
    {gf : Nat} {cap : List AV} {cvs : List Value} (hcap : VL κ1 w1 cap cvs) {x : AV} {h2 : Heap} (hc : callF Γ.T rec { cx with rd := none } gf (.yld l :: cap) H1 = some (x, h2)) {st st' : St} {ex : Ex} (hend : endLoop l h2 st = some (ex, st')) (m n : Nat) {Q : Exit → Go.Act → World → Prop} {a' : Go.Act}
    (hQ : ∀ κ' w', Le κ w κ' w' → Fr cx.wp κ H w κ' st'.h w' → HInv Γ κ' st'.h w' → Le κ1 w1 κ' w' → Q ex.to a' w') :
    CallsIn F m Γ.P gf (Value.func (.yield gb) #[] #[] :: cvs).toArray w1 (rangePost F n Γ.P gb Q a') := by
  have hyl : VL κ1 w1 (.yld l :: cap) (Value.func (.yield gb) #[] #[] :: cvs) := ⟨_, _, rfl, ⟨gb, b, z, hk1, rfl⟩, hcap⟩
  refine hF.calls ((callF_snd hT hrec hc i1 hyl m).mono fun e w2 he => ?_)
  cases e with
  | panicked _ => exact he.elim
  | outgrown => exact he.elim
  | returned u =>
    obtain ⟨κ2, l2, f2, i2, _⟩ := he
    have hk2 := l2.box _ _ _ hk1
    have main : ∀ lid tmps s, h2[l]? = some (.loop lid tmps s) → s ≠ .busy → st'.h = h2.set l .dead → ∃ lp : Loop, s.is lp.state lp.pending ∧ ∃ w4, (Instr.endLoop gb).run Γ.P w2 = .ok lp.pending w4 ∧ Q ex.to a' w4 := by
      intro lid tmps s hH hs hst
      obtain ⟨⟨lp, hlp, hsp, _⟩, hnf⟩ := i2.box l _ hH gb b z hk2
      have hnb : lp.state ≠ .busy := by
        cases s with
        | ready => rw [hsp.1]; simp
        | busy => exact absurd rfl hs
        | done j => cases j <;> (rw [hsp.1]; simp)
      have hsh : ∀ s, w2.shape? gb = some s → (w2.putObj gb (.loop { lp with state := .exhausted })).shape? gb = some s := fun s h => by simp [World.shape?, hlp] at h
      obtain ⟨l3, _, i3⟩ := i2.put (bx' := .dead) (wp := 0) hH rfl hk2 (Put.putObj (o' := .loop { lp with state := .exhausted }) hlp) hsh hnf (fun h => by cases h) (Nat.zero_le _) (fun _ => trivial)
      refine ⟨lp, hsp, _, run_endLoop hlp hnb, hQ κ2 _ (l1.trans (l2.trans l3)) ?_ (by rw [hst]; exact i3) (l2.trans l3)⟩
      rw [hst]
      exact (f1.trans f2).dead i2 hl hH rfl hk2 (Put.putObj (o' := .loop { lp with state := .exhausted }) hlp)
    unfold endLoop at hend
    split at hend
    · rename_i lid tmps hH
      injection hend with hend
      injection hend with e1 e2
      subst e1; subst e2
      obtain ⟨lp, hsp, w4, hr, hq⟩ := main _ _ _ hH (by simp) rfl
      exact ⟨lp.pending, w4, hr, by rw [hsp.2]; exact hq⟩
    · rename_i lid tmps hH
      injection hend with hend
      injection hend with e1 e2
      subst e1; subst e2
      obtain ⟨lp, hsp, w4, hr, hq⟩ := main _ _ _ hH (by simp) rfl
      exact ⟨lp.pending, w4, hr, by rw [hsp.2]; exact wpIn_ret hq⟩
    · rename_i lid tmps id hH
      injection hend with hend
      injection hend with e1 e2
      subst e1; subst e2
      obtain ⟨lp, hsp, w4, hr, hq⟩ := main _ _ _ hH (by simp) rfl
      exact ⟨lp.pending, w4, hr, by rw [hsp.2]; exact wpIn_exit hq⟩
    · cases hend

theorem E_snd (hT : TabOk Γ) : ∀ k, CodeSnd Γ (E Γ.T k)
  | 0 => by
    intro cx ac st ex st' h
    simp [E] at h
  | k + 1 => by
   have hrec : CodeSnd Γ (E Γ.T k) := E_snd hT k
   have hsub : ∀ j, j ≤ k → CodeSnd Γ (E Γ.T j) := fun j _ => E_snd hT j
   show CodeSnd Γ (evalF Γ.T (E Γ.T k))
   intro cx ac st ex st' h f c htr hl κ w a F hF hi hf hm n Q hQ
   cases ac with
   | bad => simp [evalF] at h
   | skip =>
     simp only [evalF, Option.some.injEq, Prod.mk.injEq] at h
     obtain ⟨rfl, rfl⟩ := h
     have := trC_skip htr
     subst this
     exact wpIn_skip (hQ κ w a (Le.refl _ _) (Fr.refl _ _ _ _) hi hf hm)
   | kill ts c' =>
     simp only [evalF] at h
     simp only [strip] at htr
     exact hrec _ _ _ _ _ h f c htr hl κ w a F hF hi (hf.kill ts) hm n Q hQ
   | region ops pre u =>
     simp only [evalF] at h
     obtain ⟨st1, h1, h⟩ := Option.map_eq_some_iff.1 h
     injection h with e1 e2
     subst e1; subst e2
     obtain ⟨id, ops', draw, rfl, hr⟩ := trC_region htr
     exact region_snd hT hrec hr h1 hF hi hf hm hQ
   | seq x y =>
     simp only [strip] at htr
     obtain ⟨cx', cy', rfl, hx, hy⟩ := trC_seq htr
     simp only [evalF] at h
     refine wpIn_seq ?_
     split at h
     · rename_i st1 h1
       refine hrec _ _ _ _ _ h1 f cx' hx hl.1 κ w a F hF hi hf hm n _ fun κ1 w1 a1 l1 f1 i1 fr1 m1 => ?_
       exact hrec _ _ _ _ _ h f cy' hy hl.2 κ1 w1 a1 F (hF.le l1.box) i1 fr1 m1 n Q fun κ2 w2 a2 l2 f2 i2 fr2 m2 => hQ κ2 w2 a2 (l1.trans l2) (f1.trans f2) i2 fr2 m2
     · rename_i hne
       refine hrec _ _ _ _ _ h f cx' hx hl.1 κ w a F hF hi hf hm n _ fun κ1 w1 a1 l1 f1 i1 fr1 m1 => ?_
       have := hQ κ1 w1 a1 l1 f1 i1 fr1 m1
       cases ex with
       | nrm => exact absurd h (hne _)
       | exit id => exact this
       | ret => exact this
   | cond o x y =>
     simp only [strip] at htr
     obtain ⟨v, cx', cy', rfl, ho, hx, hy⟩ := trC_cond htr
     simp only [evalF] at h
     split at h
     · rename_i t ht
       have hv := eval_snd hf v o ho
       rw [ht] at hv
       refine wpIn_cond (t := t) hv ?_
       cases t
       · exact hrec _ _ _ _ _ h f cy' hy hl.2 κ w a F hF hi hf hm n Q hQ
       · exact hrec _ _ _ _ _ h f cx' hx hl.1 κ w a F hF hi hf hm n Q hQ
     · cases h
   | block id x =>
     simp only [strip] at htr
     obtain ⟨cx', rfl, hx⟩ := trC_block htr
     simp only [evalF] at h
     refine wpIn_block ?_
     split at h
     · rename_i id' st1 h1
       injection h with h
       injection h with e1 e2
       subst e2
       refine hrec _ _ _ _ _ h1 f cx' hx hl κ w a F hF hi hf hm n _ fun κ1 w1 a1 l1 f1 i1 fr1 m1 => ?_
       have := hQ κ1 w1 a1 l1 f1 i1 fr1 m1
       show if id' = id then Q .normal a1 w1 else Q (.exit id') a1 w1
       split at e1
       · rename_i he
         subst e1
         rw [if_pos he]
         exact this
       · rename_i he
         subst e1
         rw [if_neg he]
         exact this
     · rename_i hne
       refine hrec _ _ _ _ _ h f cx' hx hl κ w a F hF hi hf hm n _ fun κ1 w1 a1 l1 f1 i1 fr1 m1 => ?_
       have := hQ κ1 w1 a1 l1 f1 i1 fr1 m1
       cases ex with
       | nrm => exact this
       | exit id' => exact absurd h (hne _ _)
       | ret => exact this
   | loop x =>
     simp only [strip] at htr
     obtain ⟨cx', rfl, hx⟩ := trC_loop htr
     have h0 : E Γ.T (k + 1) cx (.loop x) st = some (ex, st') := h
     refine loop_count (I := fun j a1 w1 => ∃ κ1 st1, j ≤ k + 1 ∧ E Γ.T j cx (.loop x) st1 = some (ex, st') ∧ Le κ w κ1 w1 ∧ Fr cx.wp κ st.h w κ1 st1.h w1 ∧ HInv Γ κ1 st1.h w1 ∧ FR κ1 w1 st1.fr a1.tmps ∧ Mk κ1 st1.ds a1.defers) ?_ (j := k + 1)
       ⟨κ, st, Nat.le_refl _, h0, Le.refl _ _, Fr.refl _ _ _ _, hi, hf, hm⟩
     rintro j a1 w1 ⟨κ1, st1, hj, hE, l1, f1, i1, fr1, m1⟩
     cases j with
     | zero => simp [E] at hE
     | succ j =>
       simp only [E, evalF] at hE
       have hs := hsub j (by omega)
       split at hE
       · rename_i st2 h2
         refine hs _ _ _ _ _ h2 f cx' hx hl κ1 w1 a1 F (hF.le l1.box) i1 fr1 m1 n _ fun κ2 w2 a2 l2 f2 i2 fr2 m2 => ?_
         exact ⟨j, by omega, κ2, st2, by omega, hE, l1.trans l2, f1.trans f2, i2, fr2, m2⟩
       · rename_i hne
         refine hs _ _ _ _ _ hE f cx' hx hl κ1 w1 a1 F (hF.le l1.box) i1 fr1 m1 n _ fun κ2 w2 a2 l2 f2 i2 fr2 m2 => ?_
         have := hQ κ2 w2 a2 (l1.trans l2) (f1.trans f2) i2 fr2 m2
         cases ex with
         | nrm => exact absurd hE (hne _)
         | exit id => exact this
         | ret => exact this
   | exit id =>
     simp only [evalF, Option.some.injEq, Prod.mk.injEq] at h
     obtain ⟨rfl, rfl⟩ := h
     have := trC_exit htr
     subst this
     exact wpIn_exit (hQ κ w a (Le.refl _ _) (Fr.refl _ _ _ _) hi hf hm)
   | ret =>
     simp only [evalF, Option.some.injEq, Prod.mk.injEq] at h
     obtain ⟨rfl, rfl⟩ := h
     have := trC_ret htr
     subst this
     exact wpIn_ret (hQ κ w a (Le.refl _ _) (Fr.refl _ _ _ _) hi hf hm)
   | rangef lid o =>
     simp only [strip] at htr
     obtain ⟨g, ps, asg, body, rfl, ho, rfl⟩ := trC_rangef htr
     obtain ⟨⟨aa, ab, t1, t2, t3⟩, t4, t5⟩ := hl
     have hvg := eval_snd hf g o ho
     simp only [evalF] at h
     split at h
     · -- an outermost loop
       rename_i gf cap he hrd
       rw [he] at hvg
       obtain ⟨cvs, hgv, hcap⟩ := hvg
       split at h
       case h_2 => cases h
       case h_1 x h2 hc =>
       have hFw : F = Fence.wide := by unfold FOk at hF; rw [hrd] at hF; exact hF
       refine wpIn_rangeFunc fun fn _ => ?_
       obtain ⟨k1, q1, i1⟩ := hi.push (wp := cx.wp) (New.alloc w (.deferred (some []))) .defer 0 fun hle => by
         intro gb b z hk
         have hk' : (κ.add st.h.length 0 (w.heap.size, 0, 0)).box st.h.length 0 = some (gb, b, z) := hk
         rw [K.add_self] at hk'
         injection hk' with hk'
         injection hk' with e1 _
         subst e1
         exact ⟨heap_alloc_new w _, fun o ho => by obtain ⟨u, hu⟩ := hi.frz _ _ ho; exact absurd (lt_of_cell hu) (Nat.lt_irrefl _)⟩
       generalize hκ1 : κ.add st.h.length 0 (w.heap.size, 0, 0) = κ1 at k1 q1 i1
       have hself : κ1.box st.h.length 0 = some (w.heap.size, 0, 0) := by rw [← hκ1]; exact K.add_self _ _ _ _
       generalize hw1 : w.alloc (.deferred (some [])) = w1 at k1 q1 i1
       have hws : w1.heap.size = w.heap.size + 1 := by rw [← hw1]; simp
       let lo : Loop := { state := .ready, pending := none, fn, tmps := a.tmps, params := ps, assign := asg, body, defers := w.heap.size }
       obtain ⟨k2, q2, i2⟩ := i1.push (wp := cx.wp) (New.alloc w1 (.loop lo)) (.loop (lidOf f ps) st.fr .ready) 0 fun hle => by
         intro gb b z hk
         have hk' : (κ1.add (st.h ++ [Box.defer]).length 0 (w1.heap.size, 0, 0)).box (st.h ++ [Box.defer]).length 0 = some (gb, b, z) := hk
         rw [K.add_self] at hk'
         injection hk' with hk'
         injection hk' with e1 _
         subst e1
         exact ⟨⟨lo, heap_alloc_new w1 _, ⟨rfl, rfl⟩, (hf.le k1).le hle, f, aa, ab, t1, t2, t3, t4, t5⟩, fun o ho => by obtain ⟨u, hu⟩ := i1.frz _ _ ho; exact absurd (lt_of_cell hu) (Nat.lt_irrefl _)⟩
       have hlen : (st.h ++ [Box.defer]).length = st.h.length + 1 := by simp
       rw [hlen] at k2 q2 i2
       have hk2 : (κ1.add (st.h.length + 1) 0 (w1.heap.size, 0, 0)).box (st.h.length + 1) 0 = some (w1.heap.size, 0, 0) := K.add_self _ _ _ _
       generalize hκ2 : κ1.add (st.h.length + 1) 0 (w1.heap.size, 0, 0) = κ2 at k2 q2 i2 hk2
       have hcap2 : VL κ2 (w1.alloc (.loop lo)) cap cvs.toList := VL.le k2 _ _ (VL.le k1 _ _ hcap)
       have hcall := range_end (H := st.h) hT hrec hF (l := st.h.length + 1) (by omega) (k1.trans k2) (q1.trans q2) i2 hk2 hcap2 hc h (n - 1) n (Q := Q) (a' := { a with defers := [{ target := .collected w.heap.size, args := #[] }] ++ a.defers }) fun κ' w' l1 f1 i1' l2 => ?_
       · obtain ⟨fnn, cc, hcf⟩ : ∃ fnn cc, CodeFn Γ gf fnn cc := by
           unfold callF at hc
           split at hc
           · rename_i a' hf'
             obtain ⟨fnn, cc, c1, _⟩ := hT.code gf a' hf'
             exact ⟨fnn, cc, c1⟩
           · rename_i p hf'
             exact (hT.prim gf p hf').1
           · cases hc
         refine ⟨w1.heap.size, _, w1.alloc (.loop lo), { target := .fn (.func gf) cvs, args := #[.func (.yield w1.heap.size) #[] #[]] }, w1.alloc (.loop lo), gf, _, w1.alloc (.loop lo), ?_, ?_, fun f' _ => hF.fn f', ?_, fun hd => (by rw [hF.depth] at hd; cases hd), hcall⟩
         · rw [hFw]
           have := run_enterLoop_outer (P := Γ.P) (w := w) fn a.tmps ps asg body
           rw [hw1] at this
           rw [hws]
           exact this
         · have hev : a.eval (.const (.func (.yield w1.heap.size) #[] #[])) = .func (.yield w1.heap.size) #[] #[] := rfl
           simp [resolve, Deferred.ofValue, hgv, hev]
         · simp only [invoke]
           have e : (#[Value.func (.yield w1.heap.size) #[] #[]] ++ cvs : Array Value) = (Value.func (.yield w1.heap.size) #[] #[] :: cvs.toList).toArray := by
             apply Array.ext'
             simp
           rw [e]
           exact run_callFunc hcf _
       · have hst : st'.fr = st.fr ∧ st'.ds = st.h.length :: st.ds := by
           unfold endLoop at h
           split at h <;> first
             | (injection h with h; injection h with _ h; subst h; exact ⟨rfl, rfl⟩)
             | (cases h; done)
         refine hQ κ' w' _ l1 f1 i1' (by rw [hst.1]; exact hf.le l1) ?_
         rw [hst.2]
         exact ⟨w.heap.size, 0, 0, a.defers, rfl, (k2.trans l2).box _ _ _ hself, Mk.le l1.box hm⟩
     · -- within a round
       rename_i gf cap l0 he hrd
       rw [he] at hvg
       obtain ⟨cvs, hgv, hcap⟩ := hvg
       split at h
       case h_2 => cases h
       case h_1 lid0 tmps0 s0 hH0 =>
       split at h
       case h_2 => cases h
       case h_1 x h2 hc =>
       obtain ⟨g0, b0, z0, hk0, hFw⟩ : ∃ g0 b0 z0, κ.box l0 0 = some (g0, b0, z0) ∧ F = Fence.wide.inRound g0 := by unfold FOk at hF; rw [hrd] at hF; exact hF
       obtain ⟨⟨lp0, hlp0, _⟩, _⟩ := hi.box l0 _ hH0 g0 b0 z0 hk0
       refine wpIn_rangeFunc fun fn _ => ?_
       let lo : Loop := { state := .ready, pending := none, fn, tmps := a.tmps, params := ps, assign := asg, body, defers := lp0.defers }
       obtain ⟨k2, q2, i2⟩ := hi.push (wp := cx.wp) (New.alloc w (.loop lo)) (.loop (lidOf f ps) st.fr .ready) 0 fun hle => by
         intro gb b z hk
         have hk' : (κ.add st.h.length 0 (w.heap.size, 0, 0)).box st.h.length 0 = some (gb, b, z) := hk
         rw [K.add_self] at hk'
         injection hk' with hk'
         injection hk' with e1 _
         subst e1
         exact ⟨⟨lo, heap_alloc_new w _, ⟨rfl, rfl⟩, hf.le hle, f, aa, ab, t1, t2, t3, t4, t5⟩, fun o ho => by obtain ⟨u, hu⟩ := hi.frz _ _ ho; exact absurd (lt_of_cell hu) (Nat.lt_irrefl _)⟩
       have hk2 : (κ.add st.h.length 0 (w.heap.size, 0, 0)).box st.h.length 0 = some (w.heap.size, 0, 0) := K.add_self _ _ _ _
       generalize hκ2 : κ.add st.h.length 0 (w.heap.size, 0, 0) = κ2 at k2 q2 i2 hk2
       have hcap2 : VL κ2 (w.alloc (.loop lo)) cap cvs.toList := VL.le k2 _ _ hcap
       have hcall := range_end (H := st.h) hT hrec hF (l := st.h.length) (Nat.le_refl _) k2 q2 i2 hk2 hcap2 hc h (n - 1) n (Q := Q) (a' := { a with defers := [] ++ a.defers }) fun κ' w' l1 f1 i1' l2 => ?_
       · obtain ⟨fnn, cc, hcf⟩ : ∃ fnn cc, CodeFn Γ gf fnn cc := by
           unfold callF at hc
           split at hc
           · rename_i a' hf'
             obtain ⟨fnn, cc, c1, _⟩ := hT.code gf a' hf'
             exact ⟨fnn, cc, c1⟩
           · rename_i p hf'
             exact (hT.prim gf p hf').1
           · cases hc
         refine ⟨w.heap.size, [], w.alloc (.loop lo), { target := .fn (.func gf) cvs, args := #[.func (.yield w.heap.size) #[] #[]] }, w.alloc (.loop lo), gf, _, w.alloc (.loop lo), ?_, ?_, fun f' _ => hF.fn f', ?_, fun hd => (by rw [hF.depth] at hd; cases hd), hcall⟩
         · rw [hFw]
           exact run_enterLoop_inner (P := Γ.P) hlp0 fn a.tmps ps asg body
         · have hev : a.eval (.const (.func (.yield w.heap.size) #[] #[])) = .func (.yield w.heap.size) #[] #[] := rfl
           simp [resolve, Deferred.ofValue, hgv, hev]
         · simp only [invoke]
           have e : (#[Value.func (.yield w.heap.size) #[] #[]] ++ cvs : Array Value) = (Value.func (.yield w.heap.size) #[] #[] :: cvs.toList).toArray := by
             apply Array.ext'
             simp
           rw [e]
           exact run_callFunc hcf _
       · have hst : st'.fr = st.fr ∧ st'.ds = st.ds := by
           unfold endLoop at h
           split at h <;> first
             | (injection h with h; injection h with _ h; subst h; exact ⟨rfl, rfl⟩)
             | (cases h; done)
         refine hQ κ' w' _ l1 f1 i1' (by rw [hst.1]; exact hf.le l1) ?_
         rw [hst.2]
         exact Mk.le l1.box hm
     · cases h

end Go.AM
end
