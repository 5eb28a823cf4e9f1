import Derived.Test.YtlnnhldhhaooiaaA07

set_option linter.unusedVariables false
set_option linter.unusedSimpArgs false
set_option linter.unusedSectionVars false
set_option linter.unnecessarySimpa false

section
/- New boxes, literals, what is appended. -/
namespace Go.AM
open Go

variable {Γ : Env} {wp : Nat} {κ κ' : K} {H : Heap} {w w' : World} {P : Program}

/-- A new row. -/
theorem HInv.pushRowV (ver : Nat) (hi : HInv Γ κ H w) {vs : Array Value} {T : TypeId} (hn : New w w' (.cells vs T (0, 0))) {z : Nat} {es : List (List AV)} (hr : Rows z es) (hl : es.length * z ≤ vs.size) (hv : VL κ w es.flatten (vs.toList.take (es.length * z))) :
    Le κ w (κ.add H.length ver (w.heap.size, 0, z)) w' ∧ Fr wp κ H w (κ.add H.length ver (w.heap.size, 0, z)) (H ++ [.cells ver es]) w' ∧ HInv Γ (κ.add H.length ver (w.heap.size, 0, z)) (H ++ [.cells ver es]) w' := by
  refine hi.pushV ver hn (.cells ver es) (Nat.le_refl _) z fun hle => ?_
  intro g b z' hk
  rw [K.add_self] at hk
  injection hk with hk
  injection hk with e1 e2
  injection e2 with e2 e3
  subst e1; subst e2; subst e3
  refine ⟨⟨vs, T, hn.new, VA_flat.2 ⟨hr, by simpa using hl, by simpa using VL.le hle _ _ hv⟩⟩, fun o ho => ?_⟩
  obtain ⟨v, h1⟩ := hi.frz _ _ ho
  exact absurd (lt_of_cell h1) (Nat.lt_irrefl _)

theorem HInv.pushRow (hi : HInv Γ κ H w) {vs : Array Value} {T : TypeId} (hn : New w w' (.cells vs T (0, 0))) {z : Nat} {es : List (List AV)} (hr : Rows z es) (hl : es.length * z ≤ vs.size) (hv : VL κ w es.flatten (vs.toList.take (es.length * z))) :
    Le κ w (κ.add H.length 0 (w.heap.size, 0, z)) w' ∧ Fr wp κ H w (κ.add H.length 0 (w.heap.size, 0, z)) (H ++ [.cells 0 es]) w' ∧ HInv Γ (κ.add H.length 0 (w.heap.size, 0, z)) (H ++ [.cells 0 es]) w' :=
  HInv.pushRowV 0 hi hn hr hl hv

theorem V_row_new {vs : Array Value} {T : TypeId} {fz : Nat × Nat} {i z n c cap : Nat} (hn : w'.heap[w.heap.size]? = some (.cells vs T fz)) (h1 : n ≤ c) (h2 : c ≤ cap) (h3 : cap * z ≤ vs.size) :
    V (κ.add i 0 (w.heap.size, 0, z)) w' (.row i 0 0 n c z) (.slice (some ⟨w.heap.size, 0, none⟩) n cap) :=
  ⟨_, _, cap, K.add_self _ _ _ _, by simp, h1, h2, T, vs.size, by simp [World.shape?, hn], by simpa using h3, fun h => by simp at h⟩

/-- A row whose capacity is known. -/
theorem V_row_exact {vs : Array Value} {T : TypeId} {fz : Nat × Nat} {i z n c : Nat} (hn : w'.heap[w.heap.size]? = some (.cells vs T fz)) (h1 : n ≤ c) (h3 : c * z ≤ vs.size) :
    V (κ.add i 1 (w.heap.size, 0, z)) w' (.row i 1 0 n c z) (.slice (some ⟨w.heap.size, 0, none⟩) n c) :=
  ⟨_, _, c, K.add_self _ _ _ _, by simp, h1, Nat.le_refl _, T, vs.size, by simp [World.shape?, hn], by simpa using h3, fun _ => rfl⟩

theorem Out.newvar (hi : HInv Γ κ H w) {vs : Array Value} {T : TypeId} {cs : List AV} (h1 : cs.all AV.one = true) (hv : VL κ w cs vs.toList) {r : Result Next}
    (hr : r = .ok (.value (.pointer (some ⟨w.heap.size, 0, none⟩))) (w.alloc (.cells vs T))) : Out Γ wp κ H w (H ++ [.cells 0 [cs]]) (.ref H.length 0 0 0) r := by
  have hlen := hv.length
  obtain ⟨hle, hh⟩ := hi.pushRow (wp := wp) (New.alloc w (.cells vs T)) (z := cs.length) (es := [cs]) (Rows.one h1 rfl) (by simp; simpa using Nat.le_of_eq hlen) (by
    have e : vs.toList.take ([cs].length * cs.length) = vs.toList := List.take_of_length_le (by rw [hlen]; simp)
    rw [e]
    simpa using hv)
  exact ⟨_, _, _, .inl hr, hle, hh, _, _, _, K.add_self _ _ _ _, by simp⟩

theorem alloc_sound (hi : HInv Γ κ H w) {e : TypeId} {z : List AV} (hz : zero P e = some z) :
    Out Γ wp κ H w (H ++ [.cells 0 [z]]) (.ref H.length 0 0 0) ((do pure (.value (← Instr.alloc e true (.tuple #[]))) : Sem Next).run P w) := by
  obtain ⟨zv, h1, h2, h3, _⟩ := run_zero hz
  refine Out.newvar hi (vs := zv.cells) (T := e) h3 (h2 κ w) ?_
  simp [Instr.alloc, h1, newVar, newRow]

theorem box_sound (hi : HInv Γ κ H w) {e : TypeId} {xv : AV} {x : Value} (hx : V κ w xv x) {cs : List AV} (hc : xv.cells = some cs) :
    Out Γ wp κ H w (H ++ [.cells 0 [cs]]) (.ref H.length 0 0 0) ((do pure (.value (← Instr.box e x)) : Sem Next).run P w) := by
  obtain ⟨h1, h2⟩ := cells_sound hx hc
  refine Out.newvar hi (vs := x.cells) (T := e) h1 h2 ?_
  simp [Instr.box, newVar, newRow]

/-- Cells are put into an array, one by one. -/
theorem foldl_put : ∀ (vs : List Value) (off k : Nat) (cs : Array Value), off + k + vs.length ≤ cs.size →
    ((vs.zipIdx k).foldl (fun (cs : Array Value) (x : Value × Nat) => cs.setIfInBounds (off + x.2) x.1) cs).toList = cs.toList.take (off + k) ++ vs ++ cs.toList.drop (off + k + vs.length)
  | [], off, k, cs, _ => by simp
  | v :: vs, off, k, cs, h => by
    simp only [List.length_cons] at h
    rw [List.zipIdx_cons, List.foldl_cons, foldl_put vs off (k + 1) _ (by simp; omega)]
    have := list_seg_step cs.toList (off + k) v vs (by simp; omega)
    simp only [Array.toList_setIfInBounds, List.length_cons]
    rw [show off + (k + 1) = off + k + 1 from by omega]
    rw [this]

theorem VL_splice {as bs : List AV} {l m : List Value} (h : VL κ w as l) (k : VL κ w bs m) (off : Nat) : VL κ w (splice as off bs) (l.take off ++ m ++ l.drop (off + m.length)) := by
  rw [← k.length]
  exact ((h.take off).append k).append (h.drop _)

theorem splice_ones {as bs : List AV} (h : as.all AV.one = true) (k : bs.all AV.one = true) (off : Nat) : (splice as off bs).all AV.one = true := by
  rw [List.all_eq_true] at h k ⊢
  intro y hy
  simp only [splice, List.mem_append] at hy
  rcases hy with (hy | hy) | hy
  · exact h y (List.mem_of_mem_take hy)
  · exact k y hy
  · exact h y (List.mem_of_mem_drop hy)

/-- Parts put into zero cells. -/
theorem fill_sound {place : Nat → Option (Nat × Nat)} : ∀ (ps : List (Nat × Value)) (qs : List (Nat × Nat × AV)) (cs : List AV) (cells : Array Value) (r : List AV), cs.all AV.one = true → VL κ w cs cells.toList →
    ps.length = qs.length → (∀ (j : Nat) (i : Nat) (v : Value) (off n : Nat) (a : AV), ps[j]? = some (i, v) → qs[j]? = some (off, n, a) → place i = some (off, n) ∧ V κ w a v) →
    fill cs qs = some r → ∃ out, Instr.fill place cells ps = some out ∧ VL κ w r out.toList ∧ r.all AV.one = true
  | [], [], cs, cells, r, h1, hv, _, _, h => by
    simp [fill] at h
    subst h
    exact ⟨cells, rfl, hv, h1⟩
  | (i, v) :: ps, (off, n, a) :: qs, cs, cells, r, h1, hv, hl, hp, h => by
    obtain ⟨hpl, hva⟩ := hp 0 i v off n a rfl rfl
    simp only [fill] at h
    cases hc : a.cells with
    | none => rw [hc] at h; cases h
    | some vs =>
      rw [hc] at h
      simp only [] at h
      split at h
      · rename_i hfit
        obtain ⟨o1, o2⟩ := cells_sound hva hc
        have hlv : v.cells.size = n := by have := o2.length; simp at this; omega
        have hlc : cells.size = cs.length := by have := hv.length; simp at this; omega
        have hput := foldl_put v.cells.toList off 0 cells (by simp; omega)
        obtain ⟨out, h2, h3, h4⟩ := fill_sound ps qs (splice cs off vs) ((v.cells.toList.zipIdx 0).foldl (fun (cs : Array Value) (x : Value × Nat) => cs.setIfInBounds (off + x.2) x.1) cells) r (splice_ones h1 o1 off)
          (by rw [hput]; simpa using VL_splice hv o2 off) (by simpa using hl) (fun j i' v' off' n' a' e1 e2 => hp (j + 1) i' v' off' n' a' e1 e2) h
        refine ⟨out, ?_, h3, h4⟩
        have hno : ¬ (v.cells.size ≠ n ∨ off + v.cells.size > cells.size) := by omega
        simp only [Instr.fill, hpl, decide_not, Bool.or_eq_true, decide_eq_true_eq, Bool.not_eq_true', decide_eq_false_iff_not]
        rw [if_neg (by simpa using hno)]
        rw [← h2]
        congr 1
        rw [← Array.foldl_toList, Array.toList_zipIdx]
      · cases h
  | [], _ :: _, _, _, _, _, _, hl, _, _ => by simp at hl
  | _ :: _, [], _, _, _, _, _, hl, _, _ => by simp at hl

end Go.AM
end
