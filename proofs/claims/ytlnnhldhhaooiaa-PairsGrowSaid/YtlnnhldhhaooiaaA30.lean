import Derived.Test.YtlnnhldhhaooiaaA29

set_option linter.unusedVariables false
set_option linter.unusedSimpArgs false
set_option linter.unusedSectionVars false
set_option linter.unnecessarySimpa false

section
/- Regions. -/
namespace Go.AM
open Go

variable {Γ : Env} {wp : Nat} {κ κ' κ'' : K} {H H1 Hf H' : Heap} {w w' : World} {rec : Ctx → AC → St → Option (Ex × St)}

theorem Fr.take (h : Fr wp κ H w κ' H' w') (b : Nat) : Fr wp κ (H.take b) w κ' (H'.take b) w' where
  len := by have := h.len; simp; omega
  at_ i hi := by
    have hi : i < b ∧ i < H.length := Nat.lt_min.1 (by simpa using hi)
    have e1 : (H.take b)[i]? = H[i]? := by rw [List.getElem?_take, if_pos hi.1]
    have e2 : (H'.take b)[i]? = H'[i]? := by rw [List.getElem?_take, if_pos hi.1]
    rcases h.at_ i hi.2 with ⟨h1, h2, h3⟩ | h1
    · exact .inl ⟨h1, by rw [e1, e2, h2], fun bx g b z q1 q2 q3 => h3 bx g b z (by rw [← e1]; exact q1) q2 q3⟩
    · exact .inr h1

theorem Fr.untake (h : Fr wp κ H w κ' (H'.take H.length) w') : Fr wp κ H w κ' H' w' where
  len := by have := h.len; simp at this; omega
  at_ i hi := by
    rcases h.at_ i hi with ⟨h1, h2, h3⟩ | h1
    · exact .inl ⟨h1, by rw [← h2, List.getElem?_take, if_pos hi], h3⟩
    · exact .inr h1

/-- A box that was laid ahead is born. -/
theorem HInv.born (hi : HInv Γ κ H w) {i : Nat} (hno : ∀ v, κ.box i v = none) {cs : List AV} (hH : H[i]? = some (.cells 0 [cs])) (h1 : cs.all AV.one = true) {vs : Array Value} {T : TypeId} (hn : New w w' (.cells vs T (0, 0))) (hv : VL κ w cs vs.toList) :
    Le κ w (κ.add i 0 (w.heap.size, 0, cs.length)) w' ∧ HInv Γ (κ.add i 0 (w.heap.size, 0, cs.length)) H w' := by
  have hil : i < H.length := (List.getElem?_eq_some_iff.1 hH).1
  have hle : Le κ w (κ.add i 0 (w.heap.size, 0, cs.length)) w' := Le.new hi hn (fun _ _ h => h)
    (fun j v x h => by
      rw [K.add_other]
      · exact h
      · rintro ⟨rfl, _⟩; rw [hno] at h; cases h)
    (fun j v g b z h => by
      rcases K.add_cases κ h with ⟨_, _, e⟩ | ⟨_, h⟩
      · injection e with e; exact .inr e
      · exact .inl h)
  refine ⟨hle, ?_, ?_, ?_, ?_, ?_, ?_⟩
  · intro j v x h
    rcases K.add_cases κ h with ⟨rfl, _, _⟩ | ⟨_, h⟩
    · exact hil
    · exact hi.dom _ _ _ h
  · intro j v g b z h; rw [hn.size]
    rcases K.add_cases κ h with ⟨_, _, e⟩ | ⟨_, h⟩
    · injection e with e; omega
    · have := hi.lt _ _ _ _ _ h; omega
  · intro j bj hj
    by_cases e : j = i
    · subst e
      rw [hH] at hj
      injection hj with hj
      subst hj
      intro g b z hk
      rw [K.add_self] at hk
      injection hk with hk
      injection hk with e1 e2
      injection e2 with e2 e3
      subst e1; subst e2; subst e3
      refine ⟨⟨vs, T, hn.new, VA_flat.2 ⟨Rows.one h1 rfl, by have := hv.length; simp at this ⊢; omega, ?_⟩⟩, fun o ho => ?_⟩
      · have := VL.le hle _ _ hv
        simp only [List.flatten_cons, List.flatten_nil, List.append_nil, List.length_cons, List.length_nil, Nat.zero_add, Nat.one_mul, List.drop_zero]
        rw [List.take_of_length_le (by have := hv.length; simp at this ⊢; omega)]
        exact this
      · obtain ⟨u, hu⟩ := hi.frz _ _ ho
        exact absurd (lt_of_cell hu) (Nat.lt_irrefl _)
    · refine (hi.box j bj hj).le hle fun g b z hk => ?_
      rcases K.add_cases κ hk with ⟨e', _, _⟩ | ⟨_, hk⟩
      · exact absurd e' e
      · exact ⟨hk, hn.old g (hi.lt _ _ _ _ _ hk), fun _ h => h⟩
  · intro j k bj bk hbj hbk hjk lj lk g1 b1 z1 g2 b2 z2 e1 e2
    rcases K.add_cases κ e1 with ⟨q1, _, x1⟩ | ⟨_, d1⟩
    · rcases K.add_cases κ e2 with ⟨q2, _, _⟩ | ⟨_, d2⟩
      · exact absurd (q1.trans q2.symm) hjk
      · injection x1 with x1 _
        have := hi.lt _ _ _ _ _ d2
        omega
    · rcases K.add_cases κ e2 with ⟨q2, _, x2⟩ | ⟨_, d2⟩
      · injection x2 with x2 _
        have := hi.lt _ _ _ _ _ d1
        omega
      · exact hi.disj j k bj bk hbj hbk hjk lj lk _ _ _ _ _ _ d1 d2
  · intro j v x bj h hbj hl
    rcases K.add_cases κ h with ⟨_, rfl, _⟩ | ⟨_, h⟩
    · exact Nat.zero_le _
    · exact hi.vers j v x bj h hbj hl
  · intro g o h
    obtain ⟨u, hu⟩ := hi.frz g o h
    exact ⟨u, (hle.keep g o h).trans hu⟩

/-- What an operation of the model has to do with one of the abstract machine's. -/
def OpRel (P : Program) (ops : Array Oper) (pre : List (List AV)) (o : Oper) (ao : AO) : Prop :=
  ao.dst = o.dst ∧ ((ao.guard = none ∧ ao.op = .bad) ∨ trG ops o.guard = some ao.guard ∧ (trOp P o.op = some ao.op ∨ ao.op = .bad ∨ ∃ e z k, o.op = .alloc e ∧ zero P e = some z ∧ ao.op = .palloc k ∧ pre[k]? = some z))

def Pend (κ : K) (H : Heap) (b0 : Nat) (pre : List (List AV)) (aos : List AO) (L : List Nat) : Prop :=
  ∀ i ∈ L, ∀ ao k z, aos[i]? = some ao → ao.op = .palloc k → pre[k]? = some z → (∀ v, κ.box (b0 + k) v = none) ∧ H[b0 + k]? = some (.cells 0 [z])

theorem runs_snd (hT : TabOk Γ) (hrec : CodeSnd Γ rec) {cx : Ctx} {b0 : Nat} {ops : Array Oper} {pre : List (List AV)} {aos : List AO} {f : Nat → Fp} {F : Fence} {n : Nat} {Q : Exit → Go.Act → World → Prop} {st' : St}
    (hrel : ∀ (i : Nat) (o : Oper), ops[i]? = some o → ∃ ao, aos[i]? = some ao ∧ OpRel Γ.P ops pre o ao) (hlen : aos.length = ops.size)
    (hinj : ∀ (i j : Nat) (x y : AO) k, aos[i]? = some x → aos[j]? = some y → x.op = .palloc k → y.op = .palloc k → k < pre.length → i = j) :
    ∀ (L : List Nat), L.Nodup → ∀ (st : St) κ w (a : Go.Act), Runs Γ.T rec cx b0 aos L st f st' → FOk cx κ F → HInv Γ κ st.h w → FR κ w st.fr a.tmps → Pend κ st.h b0 pre aos L →
      (∀ κ' w' a', Le κ w κ' w' → Fr cx.wp κ (st.h.take b0) w κ' (st'.h.take b0) w' → HInv Γ κ' st'.h w' → FR κ' w' st'.fr a'.tmps → a'.defers = a.defers → Q .normal a' w') →
      wpOpsIn F n Γ.P ops Q L a w
  | [], _, st, κ, w, a, hr, _, hi, hf, _, hQ => by
    simp only [Runs] at hr
    subst hr
    exact hQ κ w a (Le.refl _ _) (Fr.refl _ _ _ _) hi hf rfl
  | i :: L, hnd, st, κ, w, a, hr, hF, hi, hf, hp, hQ => by
    obtain ⟨ao, st1, h1, h2, h3⟩ := hr
    rw [List.nodup_cons] at hnd
    have hil : i < ops.size := by rw [← hlen]; exact (List.getElem?_eq_some_iff.1 h1).1
    have hio : ops[i]? = some ops[i] := by simp [hil]
    obtain ⟨ao', g1, hdst, hg⟩ := hrel i _ hio
    rw [h1] at g1
    injection g1 with g1
    subst g1
    simp only [wpOpsIn, hio]
    have next : ∀ κ1 w1 (a1 : Go.Act), Le κ w κ1 w1 → Fr cx.wp κ (st.h.take b0) w κ1 (st1.h.take b0) w1 → HInv Γ κ1 st1.h w1 → FR κ1 w1 st1.fr a1.tmps → a1.defers = a.defers → Pend κ1 st1.h b0 pre aos L → wpOpsIn F n Γ.P ops Q L a1 w1 := by
      intro κ1 w1 a1 l1 f1 i1 fr1 d1 p1
      exact runs_snd hT hrec hrel hlen hinj L hnd.2 st1 κ1 w1 a1 h3 (hF.le l1.box) i1 fr1 p1 fun κ' w' a' l2 f2 i2 fr2 d2 => hQ κ' w' a' (l1.trans l2) (f1.trans f2) i2 fr2 (d2.trans d1)
    have pendF : ∀ κ1 w1, Fr cx.wp κ st.h w κ1 st1.h w1 → Pend κ1 st1.h b0 pre aos L := by
      intro κ1 w1 f1 j hj aj k z q1 q2 q3
      obtain ⟨p1, p2⟩ := hp j (by simp [hj]) aj k z q1 q2 q3
      rcases f1.at_ (b0 + k) (List.getElem?_eq_some_iff.1 p2).1 with ⟨r1, r2, _⟩ | ⟨_, v, x, r1⟩
      · exact ⟨fun v => by rw [r1]; exact p1 v, by rw [r2]; exact p2⟩
      · rw [p1] at r1; cases r1
    by_cases hw : wanted st.fr ao.guard = some false
    · have hg' : trG ops ops[i].guard = some ao.guard := by
        rcases hg with ⟨e, _⟩ | ⟨e, _⟩
        · rw [e] at hw; simp [wanted] at hw
        · exact e
      simp only [stepO, hw, Option.some.injEq, Prod.mk.injEq] at h2
      obtain ⟨hs, _⟩ := h2
      subst hs
      rw [wanted_snd hf hg' hw]
      simp only [Bool.false_eq_true, if_false]
      exact ⟨fun f _ => hF.fn f, next κ w _ (Le.refl _ _) (Fr.refl _ _ _ _) hi (by rw [hdst]; exact hf.put (x := .tup []) ⟨#[], rfl, rfl⟩ _) (put_defers _ _ _) (pendF κ w (Fr.refl _ _ _ _))⟩
    · have hwt : wanted st.fr ao.guard = some true := by
        cases hc : wanted st.fr ao.guard with
        | none => simp [stepO, hc] at h2
        | some b => cases b; exact absurd hc hw; rfl
      rcases hg with ⟨_, hbad⟩ | ⟨hg', hop⟩
      · simp [stepO, hwt, hbad, act] at h2
      · rcases hop with hop | hbad | ⟨e, z, k, hoe, hz, hop, hpre⟩
        · exact step_snd hT hrec h2 hdst hg' hop hF hi hf fun κ1 w1 a1 l1 f1 i1 fr1 d1 => next κ1 w1 a1 l1 (f1.take b0) i1 fr1 d1 (pendF κ1 w1 f1)
        · simp [stepO, hwt, hbad, act] at h2
        · obtain ⟨p1, p2⟩ := hp i (by simp) ao k z h1 hop hpre
          simp only [stepO, hwt, hop, act, doAct, Option.bind_eq_bind, Option.bind_some, Option.some.injEq, Prod.mk.injEq] at h2
          obtain ⟨hs, _⟩ := h2
          subst hs
          rw [wanted_snd hf hg' hwt, if_pos rfl]
          obtain ⟨zv, z1, z2, z3, _⟩ := run_zero hz
          have hn := New.alloc w (.cells zv.cells e)
          obtain ⟨l1, i1⟩ := hi.born p1 p2 z3 hn (z2 κ w)
          refine ⟨fun f _ => hF.fn f, ?_⟩
          have hrun : (execOp a.eval ops[i]).run Γ.P w = .ok (.value (.pointer (some ⟨w.heap.size, 0, none⟩))) (w.alloc (.cells zv.cells e)) := by
            simp only [execOp, hoe]
            simp [Instr.alloc, z1, newVar, newRow]
          rw [Oper.semAt_eq F.round a.eval ops[i] (fun c e' => by rw [hoe] at e'; cases e'), hrun]
          have hfr : Fr cx.wp κ (st.h.take b0) w (κ.add (b0 + k) 0 (w.heap.size, 0, z.length)) (st.h.take b0) (w.alloc (.cells zv.cells e)) := by
            refine ⟨Nat.le_refl _, fun j hj => .inl ⟨fun v => K.add_other κ _ (fun e' => ?_), rfl, fun bx g b z' e1 e2 e3 => hn.old g (hi.lt _ _ _ _ _ e3)⟩⟩
            simp at hj
            omega
          refine next _ _ _ l1 hfr i1 (by rw [hdst]; exact (hf.le l1).put (x := .ref (b0 + k) 0 0 0) ⟨_, _, _, K.add_self _ _ _ _, by simp⟩ _) (put_defers _ _ _) fun j hj aj k' z' q1 q2 q3 => ?_
          obtain ⟨r1, r2⟩ := hp j (by simp [hj]) aj k' z' q1 q2 q3
          refine ⟨fun v => ?_, r2⟩
          rw [K.add_other κ _ (fun e' => ?_)]
          · exact r1 v
          · have : k' = k := by omega
            subst this
            have := hinj j i aj ao k' q1 h1 q2 hop (List.getElem?_eq_some_iff.1 q3).1
            subst this
            exact hnd.1 hj

end Go.AM
end
