import Derived.Test.YtlnnhldhhaooiaaA31

set_option linter.unusedVariables false
set_option linter.unusedSimpArgs false
set_option linter.unusedSectionVars false
set_option linter.unnecessarySimpa false

section
/- Regions, and all code. -/
namespace Go.AM
open Go

variable {Γ : Env} {wp : Nat} {κ κ' κ'' : K} {H H1 Hf H' : Heap} {w w' : World} {rec : Ctx → AC → St → Option (Ex × St)}

theorem HInv.prelay (hi : HInv Γ κ H w) (bs : List Box) : HInv Γ κ (H ++ bs) w where
  dom i v x h := by have := hi.dom _ _ _ h; simp; omega
  lt := hi.lt
  box i b hb := by
    by_cases hil : i < H.length
    · rw [List.getElem?_append_left hil] at hb; exact hi.box i b hb
    · cases b with
      | cells v es => intro g bb z hk; exact absurd (hi.dom _ _ _ hk) hil
      | map ks es => intro g bb z hk; exact absurd (hi.dom _ _ _ hk) hil
      | loop l t s => intro g bb z hk; exact absurd (hi.dom _ _ _ hk) hil
      | iter m since pos last => intro g bb z hk; exact absurd (hi.dom _ _ _ hk) hil
      | defer => intro g bb z hk; exact absurd (hi.dom _ _ _ hk) hil
      | dead => trivial
  disj i j bi bj hbi hbj hij li lj g b z g' b' z' h1 h2 := by
    rw [List.getElem?_append_left (hi.dom _ _ _ h1)] at hbi
    rw [List.getElem?_append_left (hi.dom _ _ _ h2)] at hbj
    exact hi.disj i j bi bj hbi hbj hij li lj _ _ _ _ _ _ h1 h2
  vers i v x b h hb hl := by
    rw [List.getElem?_append_left (hi.dom _ _ _ h)] at hb
    exact hi.vers i v x b h hb hl
  frz := hi.frz

theorem VO.perm {dep : Nat → Nat → Prop} {R L : List Nat} (h : VO dep R L) : L.Perm R := by
  induction h with
  | nil => exact .nil
  | cons hd hl ih => exact (List.Perm.cons _ ih).trans List.perm_middle.symm

theorem trAO_rel {P : Program} {ops : Array Oper} (o : Oper) : (trAO P ops o).dst = o.dst ∧ (((trAO P ops o).guard = none ∧ (trAO P ops o).op = .bad) ∨ trG ops o.guard = some (trAO P ops o).guard ∧ (trOp P o.op = some (trAO P ops o).op ∨ (trAO P ops o).op = .bad)) := by
  unfold trAO
  split
  · rename_i a g h1 h2
    exact ⟨rfl, .inr ⟨h2, .inl h1⟩⟩
  · rename_i g hn
    refine ⟨rfl, ?_⟩
    cases hg : trG ops o.guard with
    | none => exact .inl ⟨by simp, rfl⟩
    | some g' => exact .inr ⟨by simp, .inr rfl⟩

theorem region_snd (hT : TabOk Γ) (hrec : CodeSnd Γ rec) {cx : Ctx} {id : Nat} {ops : Array Oper} {draw : Bool} {aos : List AO} {pre : List (List AV)} {u : List (Nat × Nat)} (htr : trRegion Γ.P Γ.M ops draw = .region aos pre u) {st st' : St}
    (hr : region Γ.T rec cx aos pre u st = some st') {F : Fence} (hF : FOk cx κ F) (hi : HInv Γ κ st.h w) {a : Go.Act} (hf : FR κ w st.fr a.tmps) (hm : Mk κ st.ds a.defers) {n : Nat} {Q : Exit → Go.Act → World → Prop}
    (hQ : ∀ κ' w' (a' : Go.Act), Le κ w κ' w' → Fr cx.wp κ st.h w κ' st'.h w' → HInv Γ κ' st'.h w' → FR κ' w' st'.fr a'.tmps → Mk κ' st'.ds a'.defers → Q .normal a' w') :
    (Code.region id ops draw).wpIn F n Γ.P Q a w := by
  -- the run, in the text's order
  have hrun : ∃ fps, runOpsF Γ.T rec cx st.h.length aos { st with h := st.h ++ pre.map fun z => .cells 0 [z] } = some (st', fps) ∧ u.all (fun (i, j) => Fp.ok (fps.getD i (.eff [] [])) (fps.getD j (.eff [] []))) = true := by
    unfold region at hr
    cases u with
    | nil =>
      obtain ⟨fps, h⟩ := runOps_runOpsF _ _ _ hr
      exact ⟨fps, h, rfl⟩
    | cons x xs =>
      obtain ⟨⟨st2, fps⟩, h1, hr⟩ := bind_some' hr
      simp only [] at hr
      split at hr
      · rename_i hall
        injection hr with hr
        subst hr
        exact ⟨fps, h1, hall⟩
      · cases hr
  obtain ⟨fps, hrf, hall⟩ := hrun
  let f : Nat → Fp := fun j => fps.getD j (.eff [] [])
  have hruns : Runs Γ.T rec cx st.h.length aos (List.range aos.length) { st with h := st.h ++ pre.map fun z => .cells 0 [z] } f st' := by
    have := runOpsF_runs (aos := aos) aos 0 _ _ fps (fun j => by simp) hrf f (fun j _ => by simp [f])
    rwa [← List.range_eq_range'] at this
  have hi0 : HInv Γ κ (st.h ++ pre.map fun z => Box.cells 0 [z]) w := hi.prelay _
  have hpend : ∀ w1 : World, ∀ L, Pend κ (st.h ++ pre.map fun z => Box.cells 0 [z]) st.h.length pre aos L := by
    intro w1 L i _ ao k z _ _ hz
    refine ⟨fun v => ?_, ?_⟩
    · cases h : κ.box (st.h.length + k) v with
      | none => rfl
      | some x => have := hi.dom _ _ _ h; omega
    · rw [List.getElem?_append_right (by omega)]
      simp [hz]
  have htake : (st.h ++ pre.map fun z => Box.cells 0 [z]).take st.h.length = st.h := List.take_left' rfl
  have hds : st'.ds = st.ds := by have := runOps_ds hruns; exact this
  have fin : ∀ w1, Same w w1 → ∀ κ' w' (a' : Go.Act), Le κ w1 κ' w' → Fr cx.wp κ st.h w1 κ' (st'.h.take st.h.length) w' → HInv Γ κ' st'.h w' → FR κ' w' st'.fr a'.tmps → a'.defers = a.defers → Q .normal a' w' := by
    intro w1 hs κ' w' a' l1 f1 i1 fr1 d1
    have f1' : Fr cx.wp κ st.h w κ' st'.h w' := (Fr.trans (κ' := κ) (H' := st.h) (w' := w1) ⟨Nat.le_refl _, fun i _ => .inl ⟨fun _ => rfl, rfl, fun _ g _ _ _ _ _ => by rw [hs.heap]⟩⟩ f1).untake
    exact hQ κ' w' a' ((hs.le κ).trans l1) f1' i1 fr1 (by rw [hds, d1]; exact Mk.le l1.box hm)
  unfold trRegion at htr
  cases draw with
  | false =>
    simp only [Bool.false_eq_true, if_false, AC.region.injEq] at htr
    obtain ⟨rfl, rfl, rfl⟩ := htr
    refine wpIn_region ?_
    have hlen : (ops.toList.map (trAO Γ.P ops)).length = ops.size := by simp
    rw [hlen] at hruns
    refine runs_snd hT hrec (fun i o ho => ⟨trAO Γ.P ops o, by simp [ho], ?_⟩) hlen (fun i j x y k _ _ _ _ hk => by simp at hk) (List.range ops.size) List.nodup_range _ κ w a hruns hF hi0 hf (hpend w _) fun κ' w' a' l1 f1 i1 fr1 d1 => ?_
    · obtain ⟨h1, h2⟩ := trAO_rel (P := Γ.P) (ops := ops) o
      refine ⟨h1, ?_⟩
      rcases h2 with h2 | ⟨h2, h3⟩
      · exact .inl h2
      · exact .inr ⟨h2, by rcases h3 with h3 | h3; exact .inl h3; exact .inr (.inl h3)⟩
    · simp only [htake] at f1
      exact fin w (Same.refl w) κ' w' a' l1 f1 i1 fr1 d1
  | true =>
    simp only [if_true] at htr
    split at htr
    case isFalse => cases htr
    case isTrue hbw =>
    split at htr
    case h_2 => cases htr
    case h_1 u' hu =>
    simp only [AC.region.injEq] at htr
    obtain ⟨e1, e2, e3⟩ := htr
    subst e3
    have hspec := preAlloc_spec (ops.toList.map (trAO Γ.P ops)) 0
    rw [show preAlloc 0 (ops.toList.map (trAO Γ.P ops)) = (aos, pre) from Prod.ext e1 e2] at hspec
    rw [e1] at hu
    have hlen : aos.length = ops.size := by rw [hspec.len]; simp
    rw [hlen] at hruns
    refine wpIn_region_draw fun t => ?_
    simp only [Region.schedule, hT.mixed, Bool.true_or, if_true]
    have hvo := linearise_vo hbw t
    have hruns' := runs_vo hT.M hvo (f := f) _ (by
      rw [List.pairwise_iff_getElem]
      intro p q hp hq hpq
      simp only [List.length_range] at hp hq
      simp only [List.getElem_range]
      have ho := unords_spec aos 0 u' hu
      by_cases hd : ((befs ops.toList []).getD q 0).testBit p = true
      · exact .inl hd
      · refine .inr fun oi oj e1 e2 => ?_
        have := ho q p oj oi e2 (by omega) e1
        simp only [Nat.zero_add] at this
        rcases this with this | ⟨t1, t2⟩
        · exact absurd this hd
        · refine ⟨t1, ?_⟩
          rcases t2 with t2 | t2
          · exact .inl t2
          · exact .inr (by
              have := List.all_eq_true.1 hall _ t2
              exact this)) hruns
    have hs : Same w { w with drawn := w.drawn + 1 } := ⟨rfl, rfl, rfl, rfl, Nat.le_succ _⟩
    refine runs_snd hT hrec (fun i o ho => ?_) hlen (fun i j x y k h1 h2 h3 h4 _ => hspec.inj i j x y k h1 h2 h3 h4) _ (hvo.perm.nodup_iff.2 List.nodup_range) _ κ _ a hruns' hF (hi0.same hs) (hf.le (hs.le κ)) (hpend w _) fun κ' w' a' l1 f1 i1 fr1 d1 => ?_
    · obtain ⟨o', b1, b2, b3, b4⟩ := hspec.get i (trAO Γ.P ops o) (by simp [ho])
      refine ⟨o', b1, ?_⟩
      obtain ⟨h1, h2⟩ := trAO_rel (P := Γ.P) (ops := ops) o
      refine ⟨b2.trans h1, ?_⟩
      rcases b4 with ⟨rfl, _⟩ | b4 | ⟨z, j, c1, c2, c3⟩
      · rcases h2 with h2 | ⟨h2, h3⟩
        · exact .inl h2
        · exact .inr ⟨h2, by rcases h3 with h3 | h3; exact .inl h3; exact .inr (.inl h3)⟩
      · rcases h2 with ⟨h2, _⟩ | ⟨h2, h3⟩
        · exact .inl ⟨by rw [b3, h2], b4⟩
        · exact .inr ⟨by rw [b3]; exact h2, .inr (.inl b4)⟩
      · rcases h2 with ⟨_, h2⟩ | ⟨h2, h3⟩
        · rw [c1] at h2; cases h2
        · rcases h3 with h3 | h3
          · rw [c1] at h3
            obtain ⟨e, q1, q2⟩ := alloc_of h3
            exact .inr ⟨by rw [b3]; exact h2, .inr (.inr ⟨e, z, j, q1, q2, by rw [c2, Nat.zero_add], c3⟩)⟩
          · rw [c1] at h3; cases h3
    · simp only [htake] at f1
      exact fin _ hs κ' w' a' l1 f1 i1 fr1 d1

end Go.AM
end
