import Derived.Test.YtlnnhldhhaooiaaA18
import GoSem.Instr.Range
import GoSem.Instr.Next
import GoSem.Instr.Entry

set_option linter.unusedVariables false
set_option linter.unusedSimpArgs false
set_option linter.unusedSectionVars false
set_option linter.unnecessarySimpa false

section
/- A range over a map of which at most one entry is left. -/
namespace Go.AM
open Go

variable {Γ : Env} {wp : Nat} {κ κ' : K} {H H' : Heap} {w w' : World} {P : Program}

theorem newiter_sound (hi : HInv Γ κ H w) {t kt e : TypeId} (ht : P.underlying t = some (.map kt e)) {m : Nat} {x : Value} (hx : V κ w (.map m) x) {ks : List Nat} {es : List (AV × AV)} (hm : H[m]? = some (.map ks es)) :
    Out Γ wp κ H w (H ++ [.iter m es.length 0 es.length]) (.ref H.length 0 0 0) ((do pure (.value (← Instr.range t x)) : Sem Next).run P w) := by
  obtain ⟨g, b, z, hk, rfl⟩ := hx
  obtain ⟨⟨ents, clock, h1, hvm, hb⟩, _⟩ := hi.map hm hk
  have hc : clock = es.length := by
    have := hvm.1
    simp at this
    rw [hb.1, this]
  subst hc
  obtain ⟨hle, hh⟩ := hi.push (wp := wp) (New.alloc w (.mapIter (some g) es.length #[] es.length)) (.iter m es.length 0 es.length) 0 fun hle => by
    intro g' b' z' hk'
    rw [K.add_self] at hk'
    injection hk' with hk'
    injection hk' with e1 e2
    injection e2 with e2 e3
    subst e1; subst e2; subst e3
    refine ⟨⟨rfl, rfl, g, b, z, #[], hle.box _ _ _ hk, heap_alloc_new w _, rfl, fun h => absurd h (Nat.lt_irrefl _)⟩, fun o ho => ?_⟩
    obtain ⟨v, hv⟩ := hi.frz _ _ ho
    exact absurd (lt_of_cell hv) (Nat.lt_irrefl _)
  refine ⟨_, _, _, .inl ?_, hle, hh, _, _, _, K.add_self _ _ _ _, rfl⟩
  simp [Instr.range, run_underlying ht, run_getMap h1]

theorem HInv.iter (hi : HInv Γ κ H w) {i m since pos last : Nat} (hm : H[i]? = some (.iter m since pos last)) {g b z : Nat} (hk : κ.box i 0 = some (g, b, z)) :
    (b = 0 ∧ z = 0 ∧ ∃ (gm b' z' : Nat) (seen : Array Nat), κ.box m 0 = some (gm, b', z') ∧ w.heap[g]? = some (.mapIter (some gm) since seen last) ∧ seen.toList = List.range pos ∧ (0 < pos → 0 < last)) ∧ ∀ o, ¬ κ.frz g o :=
  hi.box i _ hm g b z hk

theorem run_getIter {r : Nat} {m : Option Nat} {a c : Nat} {seen : Array Nat} (hb : w.heap[r]? = some (.mapIter m a seen c)) : (getObj r).run P w = .ok (.mapIter m a seen c) w := by
  simp [getObj, Sem.run, hb]

theorem run_setIter {r : Nat} {m : Option Nat} {a c : Nat} {seen : Array Nat} (o : Obj) (hb : w.heap[r]? = some (.mapIter m a seen c)) : (setObj r o).run P w = .ok () { w with heap := w.heap.setIfInBounds r o } := by
  simp [setObj, Sem.run, hb]

theorem filter_range_nil {ents : Array MapEntry} {pos : Nat} (hn : ents.size = pos) (hb : ∀ (j : Nat) (x : MapEntry), ents[j]? = some x → x.born = j) {seen : Array Nat} (hs : seen.toList = List.range pos) :
    ents.filter (fun e => !seen.contains e.born) = #[] := by
  apply Array.filter_eq_empty_iff.2
  intro e he
  obtain ⟨j, hj, rfl⟩ := Array.getElem_of_mem he
  have := hb j _ (Array.getElem?_eq_getElem hj)
  have hm : ents[j].born ∈ seen := by rw [Array.mem_def, hs, List.mem_range, this]; omega
  simp [hm]

theorem filter_range_one {ents : Array MapEntry} {pos : Nat} {e : MapEntry} (hn : ents.size = pos + 1) (he : ents[pos]? = some e) (hb : ∀ (j : Nat) (x : MapEntry), ents[j]? = some x → x.born = j) {seen : Array Nat} (hs : seen.toList = List.range pos) :
    ents.filter (fun e => !seen.contains e.born) = #[e] := by
  have hl : ents = ents.pop.push e := by
    apply Array.ext
    · simp; omega
    · intro j h1 h2
      rw [Array.getElem_push]
      split
      · simp
      · have hj : j = pos := by simp at *; omega
        subst hj
        exact (Array.getElem?_eq_some_iff.1 he).2
  rw [hl, Array.filter_push]
  have h0 : ents.pop.filter (fun e => !seen.contains e.born) = #[] := by
    apply filter_range_nil (pos := pos) (by simp; omega) _ hs
    intro j x hx
    obtain ⟨hj, hx⟩ := Array.getElem?_eq_some_iff.1 hx
    apply hb j x
    rw [← hx, Array.getElem_pop]
    exact Array.getElem?_eq_getElem _
  have hm : ¬ e.born ∈ seen := by rw [Array.mem_def, hs, List.mem_range, hb _ _ he]; omega
  rw [h0]
  simp [hm]

theorem run_choose1 (w : World) : (choose (.mapNext 1)).run P w = .ok 0 w := by simp [choose, Sem.run, Question.forced]

/-- No entry is left. -/
theorem next_over (hi : HInv Γ κ H w) {i m since pos last : Nat} (hm : H[i]? = some (.iter m since pos last)) {x : Value} (hx : V κ w (.ref i 0 0 0) x) {ks : List Nat} {es : List (AV × AV)} (hes : H[m]? = some (.map ks es)) (hn : es.length = pos) {t : TypeId} :
    (Instr.next x false t).run P w = .ok (.tuple #[.bool false]) w := by
  obtain ⟨g, b, z, hk, rfl⟩ := hx
  obtain ⟨⟨rfl, rfl, gm, b', z', seen, k1, k2, k3, k4⟩, _⟩ := hi.iter hm hk
  obtain ⟨⟨ents, clock, h1, hvm, hb⟩, _⟩ := hi.map hes k1
  have hsz : ents.size = pos := by have := hvm.1; simp at this; omega
  have hf := filter_range_nil hsz hb.2 k3
  have hu : (!seen.isEmpty && !ents.isEmpty && ents.all (·.born ≥ last)) = false := by
    by_cases h0 : pos = 0
    · subst h0
      have : ents = #[] := Array.eq_empty_of_size_eq_zero hsz
      simp [this]
    · have hl := k4 (by omega)
      have h00 : 0 < ents.size := by omega
      have hb0 := hb.2 0 ents[0] (Array.getElem?_eq_getElem h00)
      have : ents.all (·.born ≥ last) = false := by
        rw [Array.all_eq_false]
        exact ⟨0, h00, by simp [hb0]; omega⟩
      rw [this]
      simp
  simp only [Instr.next, Sem.run_bind, Nat.zero_mul, Nat.add_zero, run_getIter k2, Result.andThen_ok, run_getMap h1]
  rw [hu]
  simp only [Bool.false_eq_true, if_false, Sem.run_bind, Sem.run_pure, Result.andThen_ok]
  simp only [hf, Array.filter_empty, Array.isEmpty_empty, if_true, Array.empty_append, Array.map_empty, Array.append_empty, Array.size_singleton]
  rw [run_choose1]
  simp

/-- One entry is left. -/
theorem next_one (hi : HInv Γ κ H w) {i m since pos last : Nat} (hm : H[i]? = some (.iter m since pos last)) {x : Value} (hx : V κ w (.ref i 0 0 0) x) {ks : List Nat} {es : List (AV × AV)} (hes : H[m]? = some (.map ks es)) (hn : es.length = pos + 1) (hlt : pos < since) (hwp : wp ≤ i)
    {k v : AV} (hkv : es[pos]? = some (k, v)) {t : TypeId} :
    ∃ u w', (Instr.next x false t).run P w = .ok u w' ∧ Le κ w κ w' ∧ (Fr wp κ H w κ (H.set i (.iter m since (pos + 1) es.length)) w' ∧ HInv Γ κ (H.set i (.iter m since (pos + 1) es.length)) w') ∧ V κ w' (.tup [.bool true, k, v]) u := by
  obtain ⟨g, b, z, hk, rfl⟩ := hx
  obtain ⟨⟨rfl, rfl, gm, b', z', seen, k1, k2, k3, k4⟩, hnf⟩ := hi.iter hm hk
  obtain ⟨⟨ents, clock, h1, hvm, hb⟩, _⟩ := hi.map hes k1
  have hsz : ents.size = pos + 1 := by have := hvm.1; simp at this; omega
  obtain ⟨_, _, e, he, hke, hve⟩ := hvm.2 pos k v hkv
  rw [Array.getElem?_toList] at he
  have hbe := hb.2 pos e he
  have hf := filter_range_one hsz he hb.2 k3
  have hu : (!seen.isEmpty && !ents.isEmpty && ents.all (·.born ≥ last)) = false := by
    by_cases h0 : pos = 0
    · subst h0
      have : seen = #[] := by apply Array.toList_inj.1; simpa using k3
      simp [this]
    · have hl := k4 (by omega)
      have h00 : 0 < ents.size := by omega
      have hb0 := hb.2 0 ents[0] (Array.getElem?_eq_getElem h00)
      have : ents.all (·.born ≥ last) = false := by
        rw [Array.all_eq_false]
        exact ⟨0, h00, by simp [hb0]; omega⟩
      rw [this]
      simp
  have hp := Put.setObj (w := w) (o' := .mapIter (some gm) since (seen.push e.born) clock) k2
  have hsh : ∀ s, w.shape? g = some s → ({ w with heap := w.heap.setIfInBounds g (.mapIter (some gm) since (seen.push e.born) clock) } : World).shape? g = some s := fun s h => by simp [World.shape?, k2] at h
  have hcl : clock = es.length := by rw [hb.1, hsz, hn]
  obtain ⟨l1, f1, i1⟩ := hi.put (bx' := .iter m since (pos + 1) es.length) (wp := wp) hm rfl hk hp hsh hnf (fun _ => rfl) hwp (fun hle => by
    intro g' b1 z1 hk'
    have : κ.box i 0 = some (g', b1, z1) := hk'
    rw [hk] at this
    injection this with this
    injection this with e1 e2
    injection e2 with e2 e3
    subst e1; subst e2; subst e3
    refine ⟨⟨rfl, rfl, gm, b', z', seen.push e.born, k1, ?_, ?_, fun _ => by omega⟩, hnf⟩
    · rw [← hcl]; exact hp.here
    · rw [Array.toList_push, k3, hbe, List.range_succ])
  refine ⟨_, _, ?_, l1, ⟨f1, i1⟩, #[.bool true, e.key, e.val], rfl, ?_⟩
  · simp only [Instr.next, Sem.run_bind, Nat.zero_mul, Nat.add_zero, run_getIter k2, Result.andThen_ok, run_getMap h1]
    rw [hu]
    simp only [Bool.false_eq_true, if_false, Sem.run_bind, Sem.run_pure, Result.andThen_ok]
    simp only [hf]
    have e1 : Array.filter (fun x => decide (x.born < since)) #[e] = #[e] := by simp [hbe, hlt]
    have e2 : Array.filter (fun x => decide (x.born ≥ since)) #[e] = #[] := by simp [hbe]; omega
    rw [e1, e2]
    simp only [List.isEmpty_toArray, List.isEmpty_cons, Bool.false_eq_true, if_false, Array.empty_append, Array.append_empty, List.map_toArray, List.map_cons, List.map_nil, List.size_toArray, List.length_cons, List.length_nil, Nat.zero_add]
    rw [run_choose1]
    simp [run_setIter _ k2]
  · exact ⟨_, _, rfl, rfl, _, _, rfl, V.le l1 _ _ hke, _, _, rfl, V.le l1 _ _ hve, rfl⟩

/-- The entry at which the range stands. -/
theorem entry_sound (hi : HInv Γ κ H w) {i m since pos : Nat} {ks : List Nat} {es : List (AV × AV)} (hm : H[i]? = some (.iter m since (pos + 1) es.length)) {x : Value} (hx : V κ w (.ref i 0 0 0) x) (hes : H[m]? = some (.map ks es)) {k v : AV} (hkv : es[pos]? = some (k, v)) :
    ∃ u, (Instr.entry x).run P w = .ok u w ∧ V κ w (.tup [k, v]) u := by
  obtain ⟨g, b, z, hk, rfl⟩ := hx
  obtain ⟨⟨rfl, rfl, gm, b', z', seen, k1, k2, k3, k4⟩, hnf⟩ := hi.iter hm hk
  obtain ⟨⟨ents, clock, h1, hvm, hb⟩, _⟩ := hi.map hes k1
  have hcl : clock = es.length := by rw [hb.1]; have := hvm.1; simp at this; omega
  obtain ⟨_, _, e, he, hke, hve⟩ := hvm.2 pos k v hkv
  rw [Array.getElem?_toList] at he
  have hback : seen.back? = some pos := by
    rw [← Array.getLast?_toList, k3, List.range_succ]
    simp
  have hfind : ents.find? (·.born == pos) = some e := by
    rw [← Array.find?_toList, List.find?_eq_some_iff_getElem]
    obtain ⟨hj, hje⟩ := Array.getElem?_eq_some_iff.1 he
    refine ⟨by simp [hb.2 pos e he], pos, by simpa using hj, by simpa using hje, fun j hjp => ?_⟩
    have := hb.2 j ents[j] (Array.getElem?_eq_getElem (by omega))
    simp [this]
    omega
  refine ⟨.tuple #[e.key, e.val], ?_, #[e.key, e.val], rfl, _, _, rfl, hke, _, _, rfl, hve, rfl⟩
  simp only [Instr.entry, Sem.run_bind, Nat.zero_mul, Nat.add_zero, run_getIter k2, Result.andThen_ok]
  simp [hback, run_getMap h1, hcl, hfind]

end Go.AM
end
