import Derived.Test.YtlnnhldhhaooiaaAb
import Derived.OrdersIn

set_option linter.unusedVariables false
set_option linter.unusedSimpArgs false
set_option linter.unusedSectionVars false
set_option linter.unnecessarySimpa false

section
/- The machine's orders are orders. -/
namespace Go.AM
open Go

variable {T : Tab} {rec : Ctx → AC → St → Option (Ex × St)} {cx : Ctx} {b0 : Nat} {M : Nat → Bool}

/-! ### What comes before what -/
theorem befOf_bit {acc : List Nat} {es : List Edge} {j : Nat} : (befOf acc es).testBit j = true ↔ ∃ e ∈ es, Region.binds .any e = true ∧ (j = e.on ∨ (acc.getD e.on 0).testBit j = true) := by
  have key : ∀ (es : List Edge) (s : Nat), (es.foldl (fun s e => if Region.binds .any e then s ||| 2 ^ e.on ||| acc.getD e.on 0 else s) s).testBit j = true ↔ s.testBit j = true ∨ ∃ e ∈ es, Region.binds .any e = true ∧ (j = e.on ∨ (acc.getD e.on 0).testBit j = true) := by
    intro es
    induction es with
    | nil => intro s; simp
    | cons e es ih =>
      intro s
      rw [List.foldl_cons, ih]
      by_cases hb : Region.binds .any e = true
      · rw [if_pos hb]
        simp only [Nat.testBit_or, Nat.testBit_two_pow, Bool.or_eq_true, decide_eq_true_eq, List.mem_cons, exists_eq_or_imp, hb, true_and]
        constructor
        · rintro ((( h | h) | h) | h)
          · exact .inl h
          · exact .inr (.inl (.inl h.symm))
          · exact .inr (.inl (.inr h))
          · exact .inr (.inr h)
        · rintro (h | ((h | h) | h))
          · exact .inl (.inl (.inl h))
          · exact .inl (.inl (.inr h.symm))
          · exact .inl (.inr h)
          · exact .inr h
      · rw [if_neg hb]
        simp only [List.mem_cons, exists_eq_or_imp, hb, false_and, false_or]
        simp
  have := key es 0
  simpa [befOf] using this

theorem befs_get : ∀ (os : List Oper) (acc : List Nat), (befs os acc).length = acc.length + os.length ∧ (∀ i, i < acc.length → (befs os acc)[i]? = acc[i]?) ∧ ∀ i o, os[i]? = some o → (befs os acc)[acc.length + i]? = some (befOf ((befs os acc).take (acc.length + i)) o.after.toList)
  | [], acc => ⟨by simp [befs], fun i _ => rfl, fun i o h => by simp at h⟩
  | o :: os, acc => by
    obtain ⟨h1, h2, h3⟩ := befs_get os (acc ++ [befOf acc o.after.toList])
    simp only [List.length_append, List.length_cons, List.length_nil] at h1 h2 h3
    simp only [befs]
    refine ⟨by rw [h1]; simp; omega, fun i hi => ?_, fun i o' ho => ?_⟩
    · rw [h2 i (by omega), List.getElem?_append_left hi]
    · cases i with
      | zero =>
        simp at ho
        subst ho
        have e1 : (befs os (acc ++ [befOf acc o.after.toList])).take acc.length = acc := by
          apply List.ext_getElem?
          intro k
          rw [List.getElem?_take]
          split
          · rename_i hk; rw [h2 k (by omega), List.getElem?_append_left hk]
          · rename_i hk; rw [List.getElem?_eq_none (by omega)]
        rw [Nat.add_zero, h2 acc.length (by omega), e1]
        simp
      | succ i =>
        have := h3 i o' (by simpa using ho)
        rw [show acc.length + (i + 1) = acc.length + 1 + i from by omega]
        exact this

/-- What 'befs' tells of an operation. -/
theorem befs_bit {os : List Oper} {i : Nat} {o : Oper} (ho : os[i]? = some o) (hb : ∀ e ∈ o.after.toList, Region.binds .any e = true → e.on < i) {j : Nat} :
    ((befs os []).getD i 0).testBit j = true ↔ ∃ e ∈ o.after.toList, Region.binds .any e = true ∧ (j = e.on ∨ ((befs os []).getD e.on 0).testBit j = true) := by
  obtain ⟨_, _, h3⟩ := befs_get os []
  have h := h3 i o ho
  simp only [List.length_nil, Nat.zero_add] at h
  rw [List.getD_eq_getElem?_getD, h, Option.getD_some, befOf_bit]
  have hg : ∀ e ∈ o.after.toList, Region.binds .any e = true → ((befs os []).take i).getD e.on 0 = (befs os []).getD e.on 0 := by
    intro e he hbi
    rw [List.getD_eq_getElem?_getD, List.getElem?_take, if_pos (hb e he hbi), List.getD_eq_getElem?_getD]
  constructor
  · rintro ⟨e, h1, h2, h4⟩; exact ⟨e, h1, h2, by rw [hg e h1 h2] at h4; exact h4⟩
  · rintro ⟨e, h1, h2, h4⟩; exact ⟨e, h1, h2, by rw [hg e h1 h2]; exact h4⟩

theorem backw_spec : ∀ (os : List Oper) (k : Nat), backw k os = true → ∀ i o, os[i]? = some o → ∀ e ∈ o.after.toList, Region.binds .any e = true → e.on < k + i
  | [], k, _, i, o, h => by simp at h
  | o :: os, k, h, i, o', ho => by
    simp only [backw, Bool.and_eq_true] at h
    intro e he hb
    cases i with
    | zero =>
      simp at ho
      subst ho
      have := List.all_eq_true.1 h.1 e he
      simp [hb] at this
      omega
    | succ i =>
      have := backw_spec os (k + 1) h.2 i o' (by simpa using ho) e he hb
      omega

/-- What comes before an operation whose own edges are listed is listed. -/
theorem before_listed {os : List Oper} (hbw : backw 0 os = true) {S : Nat → Prop} (hcl : ∀ k o, S k → os[k]? = some o → ∀ e ∈ o.after.toList, Region.binds .any e = true → S e.on) :
    ∀ (i : Nat) (o : Oper), os[i]? = some o → (∀ e ∈ o.after.toList, Region.binds .any e = true → S e.on) → ∀ j, ((befs os []).getD i 0).testBit j = true → S j := by
  intro i
  induction i using Nat.strongRecOn with
  | _ i ih =>
    intro o ho hall j hj
    have hb : ∀ e ∈ o.after.toList, Region.binds .any e = true → e.on < i := fun e he hbi => by
      have := backw_spec os 0 hbw i o ho e he hbi
      omega
    obtain ⟨e, h1, h2, h3⟩ := (befs_bit ho hb).1 hj
    rcases h3 with rfl | h3
    · exact hall e h1 h2
    · have hlt := hb e h1 h2
      have hil : i < os.length := (List.getElem?_eq_some_iff.1 ho).1
      have he : os[e.on]? = some os[e.on] := List.getElem?_eq_getElem (by omega)
      exact ih e.on hlt _ he (hcl _ _ (hall e h1 h2) he) j h3

/-! ### The machine's orders -/
def unl (listed : Array Bool) (n : Nat) : List Nat := (List.range n).filter fun i => !listed.getD i true

theorem unl_set {listed : Array Bool} {n i : Nat} (hs : listed.size = n) (hi : i ∈ unl listed n) : ∃ A B, unl listed n = A ++ i :: B ∧ unl (listed.setIfInBounds i true) n = A ++ B := by
  have hnd : (unl listed n).Nodup := List.Nodup.sublist (List.filter_sublist) List.nodup_range
  obtain ⟨A, B, hAB⟩ := List.append_of_mem hi
  refine ⟨A, B, hAB, ?_⟩
  have hin : i < n := by simp [unl] at hi; exact hi.1
  have e1 : unl (listed.setIfInBounds i true) n = (unl listed n).filter (fun j => j != i) := by
    simp only [unl, List.filter_filter]
    apply List.filter_congr
    intro j hj
    by_cases e : j = i
    · subst e
      simp [hs, hin]
    · have : (j != i) = true := by simpa using e
      rw [this]
      simp [Array.getD_eq_getD_getElem?, Array.getElem?_setIfInBounds_ne (Ne.symm e)]
  rw [e1, hAB, List.filter_append, List.filter_cons]
  rw [hAB] at hnd
  have hA : i ∉ A ∧ i ∉ B := by
    rw [List.nodup_append] at hnd
    obtain ⟨_, h2, h3⟩ := hnd
    rw [List.nodup_cons] at h2
    exact ⟨fun h => h3 i h i (by simp) rfl, h2.1⟩
  have fa : A.filter (fun j => j != i) = A := List.filter_eq_self.2 fun j hj => by simp; rintro rfl; exact hA.1 hj
  have fb : B.filter (fun j => j != i) = B := List.filter_eq_self.2 fun j hj => by simp; rintro rfl; exact hA.2 hj
  rw [fa, fb]
  simp

theorem go_vo {ops : Array Oper} (hbw : backw 0 ops.toList = true) : ∀ (fuel t : Nat) (listed : Array Bool), listed.size = ops.size → fuel = (unl listed ops.size).length →
    (∀ k o, listed.getD k false = true → ops[k]? = some o → ∀ e ∈ o.after.toList, Region.binds .any e = true → listed.getD e.on false = true) →
    VO (fun i j => ((befs ops.toList []).getD i 0).testBit j = true) (unl listed ops.size) (Region.linearise.go .any ops fuel t listed [])
  | 0, t, listed, hs, hf, hcl => by
    have : unl listed ops.size = [] := List.eq_nil_of_length_eq_zero hf.symm
    rw [this]
    exact .nil
  | fuel + 1, t, listed, hs, hf, hcl => by
    simp only [Region.linearise.go]
    change VO _ _ (match (Region.ready .any ops listed)[t % (Region.ready .any ops listed).length]? with
      | some i => Region.linearise.go .any ops fuel (t / (Region.ready .any ops listed).length) (listed.setIfInBounds i true) [i]
      | none => [].reverse)
    have hne : Region.ready .any ops listed ≠ [] := by
      obtain ⟨i, l, hi⟩ : ∃ i l, unl listed ops.size = i :: l := by
        cases h : unl listed ops.size with
        | nil => rw [h] at hf; simp at hf
        | cons i l => exact ⟨i, l, rfl⟩
      have him : i ∈ unl listed ops.size := by rw [hi]; simp
      have hmin : ∀ j ∈ unl listed ops.size, i ≤ j := by
        intro j hj
        have hpw : (unl listed ops.size).Pairwise (· < ·) := List.Pairwise.sublist (List.filter_sublist) (List.pairwise_lt_range)
        rw [hi] at hj hpw
        rcases List.mem_cons.1 hj with rfl | hj
        · exact Nat.le_refl _
        · exact Nat.le_of_lt ((List.pairwise_cons.1 hpw).1 j hj)
      simp only [unl, List.mem_filter, List.mem_range] at him
      obtain ⟨hin, hiu⟩ := him
      have hio : ops[i]? = some ops[i] := by simp [hin]
      apply List.ne_nil_of_mem (a := i)
      simp only [Region.ready, List.mem_filter, List.mem_range]
      refine ⟨hin, ?_⟩
      rw [hiu, hio]
      simp only [Option.map_some, Option.getD_some, Bool.true_and]
      rw [Array.all_eq_true_iff_forall_mem]
      intro e he
      by_cases hb : Region.binds .any e = true
      · have hlt := backw_spec ops.toList 0 hbw i ops[i] (by simpa using hio) e (by simpa using he) hb
        simp only [hb, Bool.not_true, Bool.false_or]
        cases hl : listed.getD e.on false with
        | true => rfl
        | false =>
          have : e.on ∈ unl listed ops.size := by
            simp only [unl, List.mem_filter, List.mem_range]
            refine ⟨by omega, ?_⟩
            have : e.on < listed.size := by omega
            simp [Array.getD_eq_getD_getElem?, this] at hl ⊢
            exact hl
          have := hmin _ this
          omega
      · simp [hb]
    have hlen : t % (Region.ready .any ops listed).length < (Region.ready .any ops listed).length := Nat.mod_lt _ (List.length_pos_iff.2 hne)
    rw [List.getElem?_eq_getElem hlen]
    generalize hi' : (Region.ready .any ops listed)[t % (Region.ready .any ops listed).length] = i
    have hir : i ∈ Region.ready .any ops listed := by rw [← hi']; exact List.getElem_mem _
    simp only []
    rw [linearise_go_acc, List.reverse_singleton, List.singleton_append]
    simp only [Region.ready, List.mem_filter, List.mem_range, Bool.and_eq_true] at hir
    obtain ⟨hin, hiu, hia⟩ := hir
    have hio : ops[i]? = some ops[i] := by simp [hin]
    rw [hio] at hia
    simp only [Option.map_some, Option.getD_some] at hia
    rw [Array.all_eq_true_iff_forall_mem] at hia
    have hall : ∀ e ∈ ops[i].after.toList, Region.binds .any e = true → listed.getD e.on false = true := fun e he hb => by
      have := hia e (by simpa using he)
      simpa [hb] using this
    have him : i ∈ unl listed ops.size := by simp only [unl, List.mem_filter, List.mem_range]; exact ⟨hin, hiu⟩
    obtain ⟨A, B, e1, e2⟩ := unl_set hs him
    have hset : ∀ k, (listed.setIfInBounds i true).getD k false = true ↔ k = i ∨ listed.getD k false = true := by
      intro k
      by_cases e : k = i
      · subst e; simp [hs, hin]
      · simp [Array.getD_eq_getD_getElem?, Array.getElem?_setIfInBounds_ne (Ne.symm e), e]
    rw [e1]
    refine .cons (fun j hj hdep => ?_) ?_
    · have hS := before_listed (os := ops.toList) hbw (S := fun k => listed.getD k false = true) (fun k o h1 h2 => hcl k o h1 (by simpa using h2)) i ops[i] (by simpa using hio) hall j hdep
      have hj2 : j ∈ unl listed ops.size := by rw [e1]; simp [hj]
      simp only [unl, List.mem_filter, List.mem_range] at hj2
      have hjl : j < listed.size := by omega
      simp [Array.getD_eq_getD_getElem?, hjl] at hS hj2
      rw [hS] at hj2
      simp at hj2
    · rw [← e2]
      refine go_vo hbw fuel _ _ (by simpa using hs) ?_ fun k o h1 h2 e he hb => ?_
      · rw [e2]
        rw [e1] at hf
        simp at hf ⊢
        omega
      · rw [hset] at h1 ⊢
        rcases h1 with rfl | h1
        · rw [hio] at h2
          injection h2 with h2
          subst h2
          exact .inr (hall e he hb)
        · exact .inr (hcl k o h1 h2 e he hb)

theorem linearise_vo {ops : Array Oper} (hbw : backw 0 ops.toList = true) (t : Nat) : VO (fun i j => ((befs ops.toList []).getD i 0).testBit j = true) (List.range ops.size) (Region.linearise .any ops t) := by
  have hu : unl (Array.replicate ops.size false) ops.size = List.range ops.size := by
    simp only [unl]
    rw [List.filter_eq_self]
    intro i hi
    simp at hi
    simp [Array.getD_eq_getD_getElem?, hi]
  have := go_vo hbw ops.size t (Array.replicate ops.size false) (by simp) (by rw [hu]; simp) (fun k o h1 => by
    exfalso
    by_cases hk : k < ops.size <;> simp [Array.getD_eq_getD_getElem?, hk] at h1)
  rw [hu] at this
  exact this

end Go.AM
end
