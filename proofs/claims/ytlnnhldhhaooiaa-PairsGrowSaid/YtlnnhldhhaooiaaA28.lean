import Derived.Test.YtlnnhldhhaooiaaA27

set_option linter.unusedVariables false
set_option linter.unusedSimpArgs false
set_option linter.unusedSectionVars false
set_option linter.unnecessarySimpa false

section
/- Calls and rounds. -/
namespace Go.AM
open Go

variable {Γ : Env} {wp : Nat} {κ κ' κ'' : K} {H H1 Hf H' : Heap} {w w' : World} {rec : Ctx → AC → St → Option (Ex × St)}

theorem Put.putObj {g : Nat} {o o' : Obj} (hg : w.heap[g]? = some o) : Put w (w.putObj g o') g o' := Put.setObj hg

theorem leaves_snd {fn : Func} {n lb : Nat} {fr : List AV} {tmps : Array Value} {res : List Res} {v : AV} {h' : Heap} {R : Ending → World → Prop} (hr : mapO (trRes Γ.P) fn.results.toList = some res) (hwp : wp ≤ lb) (hv : result fr h' res = some v) :
    ∀ (ds : List Nat) (defers : List Deferred) (h : Heap) (w1 : World), Mk κ ds defers → HInv Γ κ h w1 → FR κ w1 fr tmps → killAll lb h ds = some h' →
      (∀ w2 u, Le κ w1 κ w2 → Fr wp κ h w1 κ h' w2 → HInv Γ κ h' w2 → V κ w2 v u → R (.returned u) w2) → LeavesInM Fence.wide n Γ.P fn tmps R defers .returning w1
  | [], defers, h, w1, hm, hi, hf, hk, hR => by
    cases hm
    simp only [killAll, Option.some.injEq] at hk
    subst hk
    obtain ⟨u, u1, u2⟩ := results_snd (P := Γ.P) hi hf hr hv
    exact ⟨u, u1, hR w1 u (Le.refl _ _) (Fr.refl _ _ _ _) hi u2⟩
  | i :: ds, defers, h, w1, hm, hi, hf, hk, hR => by
    obtain ⟨g, b, z, rest, rfl, hb, hm'⟩ := hm
    simp only [killAll] at hk
    split at hk
    · rename_i hlb
      split at hk
      · rename_i hd
        obtain ⟨h1, h2⟩ := hi.box i _ hd g b z hb
        have hsh : ∀ s, w1.shape? g = some s → (w1.putObj g (.deferred none)).shape? g = some s := fun s hs => by simp [World.shape?, h1] at hs
        obtain ⟨hle, hfr, hi2⟩ := hi.put (bx' := .dead) hd rfl hb (Put.putObj (o' := .deferred none) h1) hsh h2 (fun h => by cases h) (Nat.le_trans hwp hlb) (fun _ => trivial)
        refine ⟨by simp, .inl ⟨g, _, rfl, run_takeDeferred h1, ?_⟩⟩
        exact leaves_snd hr hwp hv ds rest _ _ hm' hi2 (hf.le hle) hk fun w2 u a1 a2 a3 a4 => hR w2 u (hle.trans a1) (hfr.trans a2) a3 a4
      · cases hk
    · cases hk

theorem FR.enter {args : List AV} {vs : List Value} (h : VL κ w args vs) (k : Nat) : FR κ w (args ++ List.replicate (k - args.length) .any) (vs.toArray ++ Array.replicate (k - vs.toArray.size) undef) := by
  have hl := h.length
  refine ⟨by simp [hl], fun t a ht => ?_⟩
  by_cases hlt : t < args.length
  · rw [List.getElem?_append_left hlt] at ht
    obtain ⟨v, h1, h2⟩ := h.get ht
    exact ⟨v, by rw [Array.getElem?_append_left (by simp; omega)]; simpa using h1, h2⟩
  · rw [List.getElem?_append_right (by omega), List.getElem?_replicate] at ht
    split at ht
    · injection ht with ht
      subst ht
      refine ⟨undef, ?_, trivial⟩
      have hs : vs.toArray.size = args.length := by simp [hl]
      rw [Array.getElem?_append_right (by omega), Array.getElem?_replicate, if_pos (by omega)]
    · cases ht

theorem callF_snd (hT : TabOk Γ) (hrec : CodeSnd Γ rec) {cx : Ctx} {f : Nat} {args : List AV} {v : AV} (hc : callF Γ.T rec cx f args H = some (v, H')) (hi : HInv Γ κ H w) {vs : List Value} (hvs : VL κ w args vs) (n : Nat) :
    CallsIn Fence.wide n Γ.P f vs.toArray w (Post Γ cx.wp κ H w H' v) := by
  unfold callF at hc
  split at hc
  · rename_i a hf
    obtain ⟨fn, c, ⟨c1, c2, _⟩, c4, c5, c6, c7⟩ := hT.code f a hf
    split at hc
    · rename_i hwp
      have henter : ∀ (ex : Ex) (st : St), (ex = .nrm ∨ ex = .ret) → rec (cx.enter a.mode H.length) a.body ⟨args ++ List.replicate (a.ntmps - args.length) .any, [], H⟩ = some (ex, st) →
          (match killAll H.length st.h st.ds with
            | some h' => do
              let v ← result st.fr h' a.res
              leave a.mode H.length H h' v
            | none => none) = some (v, H') → CallsIn Fence.wide n Γ.P f vs.toArray w (Post Γ cx.wp κ H w H' v) := by
        intro ex st hex hr hl
        split at hl
        case h_2 => cases hl
        case h_1 h' hk =>
        obtain ⟨v1, hv1, hl⟩ := bind_some' hl
        have hle0 : (cx.enter a.mode H.length).wp ≤ H.length := by
          unfold Ctx.enter
          split
          · exact hwp
          · exact Nat.le_refl _
        have hrd : (cx.enter a.mode H.length).rd = none := by unfold Ctx.enter; split <;> rfl
        refine callsIn_of_wp_marks c1 c2 trivial ?_
        refine hrec _ _ _ _ _ hr f c c6 c7 κ w { tmps := vs.toArray ++ Array.replicate (fn.ntmps - vs.toArray.size) undef, defers := [] } Fence.wide (by unfold FOk; rw [hrd]) hi (by rw [← c4]; exact FR.enter hvs _) rfl n _ fun κ1 w1 a1 l1 f1 i1 fr1 m1 => ?_
        have fin : LeavesInM Fence.wide n Γ.P fn a1.tmps (Post Γ cx.wp κ H w H' v) a1.defers .returning w1 := by
          refine leaves_snd (wp := (cx.enter a.mode H.length).wp) c5 hle0 hv1 st.ds a1.defers st.h w1 m1 i1 fr1 hk fun w2 u l2 f2 i2 v2 => ?_
          obtain ⟨κ2, q1, q2, q3, q4⟩ := leave_snd (cx := cx) (mode := a.mode) hi (l1.trans l2) (f1.trans f2) i2 v2 hl
          exact ⟨κ2, q1, q2, q3, q4⟩
        rcases hex with rfl | rfl
        · exact fin
        · exact fin
      split at hc
      · rename_i st hr; exact henter _ st (.inl rfl) hr hc
      · rename_i st hr; exact henter _ st (.inr rfl) hr hc
      · cases hc
    · cases hc
  · rename_i p hf
    obtain ⟨_, h2⟩ := hT.prim f p hf
    exact h2 _ _ _ _ _ _ _ _ _ hc hi hvs
  · cases hc

theorem FR.set {fr : List AV} {tmps : Array Value} (h : FR κ w fr tmps) {a : AV} {v : Value} (hv : V κ w a v) (d : Nat) : FR κ w (fr.set d a) (tmps.setIfInBounds d v) := by
  refine ⟨by simp [h.1], fun t b hb => ?_⟩
  rcases set_get hb with ⟨rfl, rfl⟩ | ⟨hne, hb⟩
  · have hl := (List.getElem?_eq_some_iff.1 hb).1
    simp at hl
    have := h.1
    exact ⟨v, by simp [show d < tmps.size by omega], hv⟩
  · obtain ⟨u, h1, h2⟩ := h.2 t b hb
    exact ⟨u, by rw [Array.getElem?_setIfInBounds_ne hne]; exact h1, h2⟩

theorem FR.fold : ∀ (ps : List Nat) (args : List AV) (vs : List Value) (fr : List AV) (tmps : Array Value), VL κ w args vs → FR κ w fr tmps →
    FR κ w ((ps.zip args).foldl (fun fr (p, v) => fr.set p v) fr) ((ps.zip vs).foldl (fun tmps (t, a) => tmps.setIfInBounds t a) tmps)
  | [], _, _, _, _, _, hf => hf
  | p :: ps, [], vs, _, _, h, hf => by cases h; exact hf
  | p :: ps, a :: args, vs, fr, tmps, h, hf => by
    obtain ⟨v, vs, rfl, h1, h2⟩ := h
    simp only [List.zip_cons_cons, List.foldl_cons]
    exact FR.fold ps args vs _ _ h2 (hf.set h1 p)

theorem inRound_inRound (F : Fence) (g g' : Nat) : (F.inRound g).inRound g' = F.inRound g' := rfl

theorem FOk.inRound {cx : Ctx} {F : Fence} (hf : FOk cx κ F) (g : Nat) : F.inRound g = Fence.wide.inRound g := by
  unfold FOk at hf
  split at hf
  · rw [hf]
  · obtain ⟨_, _, _, _, rfl⟩ := hf; rfl

theorem roundF_snd (hrec : CodeSnd Γ rec) {cx : Ctx} {l : Nat} {args : List AV} {v : AV} (hc : roundF Γ.T rec cx l args H = some (v, H')) (hi : HInv Γ κ H w) {g b z : Nat} (hk : κ.box l 0 = some (g, b, z)) {vs : List Value} (hvs : VL κ w args vs) (n : Nat)
    {F : Fence} (hF : FOk cx κ F) : ∃ r : Loop, w.heap[g]? = some (.loop r) ∧ vs.toArray.size = r.params.size ∧
      RoundIn F n Γ.P g r.fn ((r.params.zip vs.toArray).foldl (fun tmps (t, a) => tmps.setIfInBounds t a) r.tmps) r.assign r.body w (Post Γ cx.wp κ H w H' v) := by
  unfold roundF at hc
  split at hc
  case h_2 => cases hc
  case h_1 lid tmps hH =>
  split at hc
  case isFalse => cases hc
  case isTrue hwp =>
  split at hc
  case h_2 => cases hc
  case h_1 ps asg body hT =>
  split at hc
  case isFalse => cases hc
  case isTrue hlen =>
  split at hc
  case h_2 => cases hc
  case h_1 st1 hasg =>
  split at hc
  case h_2 => cases hc
  case h_1 lid1 tmps1 hH1 =>
  split at hc
  case h_2 => cases hc
  case h_1 ex st2 hbody =>
  split at hc
  case h_2 => cases hc
  case h_1 lid2 tmps2 s2 hH2 =>
  obtain ⟨⟨lp, hlp, _, hfr, f, asg', body', t1, t2, t3, t4, t5⟩, hnf⟩ := hi.box l _ hH g b z hk
  rw [hT] at t1
  injection t1 with t1
  injection t1 with e1 e2
  injection e2 with e2 e3
  subst e1; subst e2; subst e3
  have hvl := hvs.length
  refine ⟨lp, hlp, by simp at hlen ⊢; omega, ?_⟩
  refine roundIn_of_wpIn (hF.fn _) ?_
  have hF1 : FOk { cx with rd := some l } κ (F.inRound g) := ⟨g, b, z, hk, hF.inRound g⟩
  refine hrec _ _ _ _ _ hasg f lp.assign t2 t4 κ w _ (F.inRound g) hF1 hi ?_ (show Mk κ [] [] from rfl) n _ fun κ1 w1 a1 l1 f1 i1 fr1 m1 => ?_
  · have := FR.fold lp.params.toList args vs tmps lp.tmps hvs hfr
    have e : (lp.params.zip vs.toArray).foldl (fun tmps (x : Tmp × Value) => tmps.setIfInBounds x.1 x.2) lp.tmps = (lp.params.toList.zip vs).foldl (fun tmps (x : Tmp × Value) => tmps.setIfInBounds x.1 x.2) lp.tmps := by
      rw [← Array.foldl_toList, Array.toList_zip]
    simp only [e]
    exact this
  · have hk1 := l1.box _ _ _ hk
    obtain ⟨⟨lp1, hlp1, hs1, hfr1, hrest1⟩, hnf1⟩ := i1.box l _ hH1 g b z hk1
    have hsh1 : ∀ s, w1.shape? g = some s → (w1.putObj g (.loop { lp1 with state := .busy })).shape? g = some s := fun s h => by simp [World.shape?, hlp1] at h
    obtain ⟨l2, f2, i2⟩ := i1.put (bx' := .loop lid1 tmps1 .busy) (wp := cx.wp) hH1 rfl hk1 (Put.putObj (o' := .loop { lp1 with state := .busy }) hlp1) hsh1 hnf1 (fun _ => rfl) hwp (fun hle => by
      intro g' b' z' hk'
      have : κ1.box l 0 = some (g', b', z') := hk'
      rw [hk1] at this
      injection this with this
      injection this with e1 e2
      subst e1
      obtain ⟨f', asg', body', u1, u2⟩ := hrest1
      exact ⟨⟨_, (Put.putObj (o' := .loop { lp1 with state := .busy }) hlp1).here, ⟨rfl, hs1.2⟩, hfr1.le hle, f', asg', body', u1, u2⟩, hnf1⟩)
    refine ⟨_, run_beginRound hlp1 hs1.1, ?_⟩
    have hF2 : FOk { cx with rd := some l } κ1 (F.inRound g) := ⟨g, b, z, hk1, hF.inRound g⟩
    refine hrec _ _ _ _ _ hbody f lp.body t3 t5 κ1 _ a1 (F.inRound g) hF2 i2 (fr1.le l2) (Mk.le l2.box m1) n _ fun κ2 w3 a2 l3 f3 i3 fr3 m3 => ?_
    have hk2 := l3.box _ _ _ hk1
    obtain ⟨⟨lp2, hlp2, hs2, hfr2, hrest2⟩, hnf2⟩ := i3.box l _ hH2 g b z hk2
    have fin : ∀ (jump : Option Code) (st : LSt), st.is (if jump.isNone then .ready else .done) jump → v = .bool jump.isNone → H' = st2.h.set l (.loop lid2 tmps2 st) →
        ∃ u w', (Instr.endRound g jump).run Γ.P w3 = .ok u w' ∧ Post Γ cx.wp κ H w H' v (.returned u) w' := by
      intro jump st hst hv hH'
      subst hv; subst hH'
      have hsh2 : ∀ s, w3.shape? g = some s → (w3.putObj g (.loop { lp2 with state := if jump.isNone then .ready else .done, pending := jump })).shape? g = some s := fun s h => by simp [World.shape?, hlp2] at h
      obtain ⟨l4, f4, i4⟩ := i3.put (bx' := .loop lid2 tmps2 st) (wp := cx.wp) hH2 rfl hk2 (Put.putObj (o' := .loop { lp2 with state := if jump.isNone then .ready else .done, pending := jump }) hlp2) hsh2 hnf2 (fun _ => rfl) hwp (fun hle => by
        intro g' b' z' hk'
        have : κ2.box l 0 = some (g', b', z') := hk'
        rw [hk2] at this
        injection this with this
        injection this with e1 e2
        subst e1
        obtain ⟨f', asg', body', u1, u2⟩ := hrest2
        exact ⟨⟨_, (Put.putObj (o' := .loop { lp2 with state := if jump.isNone then .ready else .done, pending := jump }) hlp2).here, hst, hfr2.le hle, f', asg', body', u1, u2⟩, hnf2⟩)
      exact ⟨_, _, run_endRound jump hlp2, κ2, l1.trans (l2.trans (l3.trans l4)), f1.trans (f2.trans (f3.trans f4)), i4, rfl⟩
    cases ex with
    | nrm =>
      simp only [Option.some.injEq, Prod.mk.injEq] at hc
      exact fin none .ready ⟨rfl, rfl⟩ hc.1.symm hc.2.symm
    | ret =>
      simp only [Option.some.injEq, Prod.mk.injEq] at hc
      exact fin (some .ret) (.done .ret) ⟨rfl, rfl⟩ hc.1.symm hc.2.symm
    | exit id =>
      simp only [Option.some.injEq, Prod.mk.injEq] at hc
      exact fin (some (.exit id)) (.done (.exit id)) ⟨rfl, rfl⟩ hc.1.symm hc.2.symm

end Go.AM
end
