import Derived.Test.YtlnnhldhhaooiaaA05

set_option linter.unusedVariables false
set_option linter.unusedSimpArgs false
set_option linter.unusedSectionVars false
set_option linter.unnecessarySimpa false

section
/- Rows, flat; loads and stores. -/
namespace Go.AM
open Go

variable {Γ : Env} {wp : Nat} {κ κ' : K} {H : Heap} {w w' : World} {P : Program}

theorem flat_len {es : List (List AV)} {z : Nat} (h : ∀ el ∈ es, el.length = z) : es.flatten.length = es.length * z := by
  induction es with
  | nil => simp
  | cons e es ih =>
    simp only [List.flatten_cons, List.length_append, List.length_cons, Nat.add_mul, Nat.one_mul]
    rw [ih (fun x hx => h x (by simp [hx])), h e (by simp)]
    omega
theorem flat_drop {es : List (List AV)} {z : Nat} (h : ∀ el ∈ es, el.length = z) (k : Nat) : es.flatten.drop (k * z) = (es.drop k).flatten := by
  induction k generalizing es with
  | zero => simp
  | succ k ih =>
    cases es with
    | nil => simp
    | cons e es =>
      have he := h e (by simp)
      rw [show (k + 1) * z = e.length + k * z from by rw [Nat.add_mul, Nat.one_mul, he]; omega, List.flatten_cons, List.drop_append, List.drop_succ_cons, ← ih (fun x hx => h x (by simp [hx]))]
      simp
theorem flat_take {es : List (List AV)} {z : Nat} (h : ∀ el ∈ es, el.length = z) (k : Nat) : es.flatten.take (k * z) = (es.take k).flatten := by
  induction k generalizing es with
  | zero => simp
  | succ k ih =>
    cases es with
    | nil => simp
    | cons e es =>
      have he := h e (by simp)
      rw [show (k + 1) * z = e.length + k * z from by rw [Nat.add_mul, Nat.one_mul, he]; omega, List.flatten_cons, List.take_succ_cons, List.flatten_cons, ← ih (fun x hx => h x (by simp [hx])), List.take_append, List.take_of_length_le (by omega)]
      simp
theorem flat_get {es : List (List AV)} {z : Nat} (h : ∀ el ∈ es, el.length = z) {e f : Nat} {el : List AV} (he : es[e]? = some el) (hf : f < z) : es.flatten[e * z + f]? = el[f]? := by
  have h1 : es.drop e = el :: es.drop (e + 1) := by
    obtain ⟨h1, h2⟩ := List.getElem?_eq_some_iff.1 he
    rw [List.drop_eq_getElem_cons h1, h2]
  have h2 := flat_drop h e
  rw [h1, List.flatten_cons] at h2
  have h3 : (es.flatten.drop (e * z))[f]? = es.flatten[e * z + f]? := by rw [List.getElem?_drop]
  rw [← h3, h2, List.getElem?_append_left (by rw [h el (List.mem_of_getElem? he)]; exact hf)]

/-- Elements of z cells, flat. -/
def Rows (z : Nat) (es : List (List AV)) : Prop := (∀ el ∈ es, el.length = z) ∧ es.flatten.all AV.one = true

theorem Rows.drop {z : Nat} {es : List (List AV)} (h : Rows z es) (k : Nat) : Rows z (es.drop k) :=
  ⟨fun el he => h.1 el (List.mem_of_mem_drop he), by
    rw [List.all_eq_true]
    intro x hx
    obtain ⟨l, hl, hxl⟩ := List.mem_flatten.1 hx
    exact List.all_eq_true.1 h.2 x (List.mem_flatten.2 ⟨l, List.mem_of_mem_drop hl, hxl⟩)⟩
theorem Rows.take {z : Nat} {es : List (List AV)} (h : Rows z es) (k : Nat) : Rows z (es.take k) :=
  ⟨fun el he => h.1 el (List.mem_of_mem_take he), by
    rw [List.all_eq_true]
    intro x hx
    obtain ⟨l, hl, hxl⟩ := List.mem_flatten.1 hx
    exact List.all_eq_true.1 h.2 x (List.mem_flatten.2 ⟨l, List.mem_of_mem_take hl, hxl⟩)⟩
theorem Rows.append {z : Nat} {es fs : List (List AV)} (h : Rows z es) (k : Rows z fs) : Rows z (es ++ fs) :=
  ⟨fun el he => by
    rcases List.mem_append.1 he with he | he
    · exact h.1 el he
    · exact k.1 el he, by
    rw [List.flatten_append, List.all_append, h.2, k.2]; rfl⟩
theorem Rows.one {z : Nat} {cs : List AV} (h : cs.all AV.one = true) (hl : cs.length = z) : Rows z [cs] :=
  ⟨fun el he => by simp at he; subst he; exact hl, by simpa using h⟩
theorem Rows.nil (z : Nat) : Rows z [] := ⟨fun _ h => (by cases h), rfl⟩
theorem Rows.replicate {z : Nat} {cs : List AV} (h : cs.all AV.one = true) (hl : cs.length = z) (n : Nat) : Rows z (List.replicate n cs) := by
  induction n with
  | zero => exact Rows.nil z
  | succ n ih => rw [List.replicate_succ]; exact (Rows.one h hl).append ih

/-- The flat form of VA. -/
theorem VA_flat {arr : Array Value} {z b : Nat} {es : List (List AV)} : VA κ w arr z b es ↔ Rows z es ∧ b + es.length * z ≤ arr.size ∧ VL κ w es.flatten ((arr.toList.drop b).take (es.length * z)) := by
  constructor
  · rintro ⟨h1, h2⟩
    have hz : ∀ el ∈ es, el.length = z := by
      intro el he
      obtain ⟨e, he⟩ := List.getElem?_of_mem he
      exact (h2 e el he).1
    refine ⟨⟨hz, ?_⟩, h1, ?_⟩
    · rw [List.all_eq_true]
      intro x hx
      obtain ⟨l, hl, hxl⟩ := List.mem_flatten.1 hx
      obtain ⟨e, he⟩ := List.getElem?_of_mem hl
      obtain ⟨f, hf⟩ := List.getElem?_of_mem hxl
      exact ((h2 e l he).2 f x hf).1
    · rw [VL_iff]
      refine ⟨by rw [flat_len hz]; simp; omega, fun k a ha => ?_⟩
      have hk : k < es.length * z := by
        have := (List.getElem?_eq_some_iff.1 ha).1
        rwa [flat_len hz] at this
      have hz0 : 0 < z := by
        rcases Nat.eq_zero_or_pos z with h | h
        · subst h; simp at hk
        · exact h
      have he : k / z < es.length := (Nat.div_lt_iff_lt_mul hz0).2 hk
      have hf : k % z < z := Nat.mod_lt _ hz0
      have hke : k = k / z * z + k % z := by rw [Nat.mul_comm]; exact (Nat.div_add_mod k z).symm
      have hel : es[k / z]? = some es[k / z] := List.getElem?_eq_getElem he
      rw [hke, flat_get hz hel hf] at ha
      obtain ⟨_, v, h3, h4⟩ := (h2 _ _ hel).2 _ a ha
      refine ⟨v, ?_, h4⟩
      rw [List.getElem?_take, if_pos hk, List.getElem?_drop, Array.getElem?_toList]
      rw [show b + k = b + k / z * z + k % z from by omega]
      exact h3
  · rintro ⟨⟨hz, h1⟩, h2, h3⟩
    refine ⟨h2, fun e el he => ⟨hz el (List.mem_of_getElem? he), fun f a hf => ?_⟩⟩
    have hfz : f < z := by rw [← hz el (List.mem_of_getElem? he)]; exact (List.getElem?_eq_some_iff.1 hf).1
    have hg := flat_get hz he hfz
    rw [hf] at hg
    obtain ⟨v, h4, h5⟩ := h3.get hg
    refine ⟨List.all_eq_true.1 h1 a (List.mem_of_getElem? hg), v, ?_, h5⟩
    rw [List.getElem?_take] at h4
    split at h4
    · rw [List.getElem?_drop, Array.getElem?_toList] at h4
      rw [show b + e * z + f = b + (e * z + f) from by omega]
      exact h4
    · cases h4

/-- Cells that lie one behind the other. -/
def CA (κ : K) (w : World) (g o : Nat) (cs : List AV) : Prop := ∃ vs : List Value, VL κ w cs vs ∧ (∀ (j : Nat) (v : Value), vs[j]? = some v → w.cell? ⟨g, o + j, none⟩ = some v)

theorem VL.ones {as : List AV} {l : List Value} (h : VL κ w as l) (h1 : as.all AV.one = true) : ∀ v ∈ l, v.oneCell' = true := by
  intro v hv
  obtain ⟨j, hj⟩ := List.getElem?_of_mem hv
  have hl : j < as.length := by rw [h.length]; exact (List.getElem?_eq_some_iff.1 hj).1
  obtain ⟨u, h2, h3⟩ := h.get (List.getElem?_eq_getElem hl)
  rw [hj] at h2
  injection h2 with h2
  subst h2
  exact V.one h3 (List.all_eq_true.1 h1 _ (List.getElem_mem hl))

theorem CA_of_VC {g o : Nat} {cs : List AV} (h : VC κ w g cs o) : cs.all AV.one = true ∧ CA κ w g o cs := by
  induction cs generalizing o with
  | nil => exact ⟨rfl, [], rfl, fun j v hv => by simp at hv⟩
  | cons a as ih =>
    simp only [VC] at h
    obtain ⟨h0, _, ⟨v, h2, h3⟩, h4⟩ := h
    obtain ⟨h5, vs, h6, h7⟩ := ih h4
    refine ⟨by simp only [List.all_cons, h0, h5]; rfl, v :: vs, ⟨v, vs, rfl, h3, h6⟩, fun j u hj => ?_⟩
    cases j with
    | zero => simp at hj; subst hj; exact h2
    | succ j => simp at hj; have := h7 j u hj; rwa [show o + 1 + j = o + (j + 1) from by omega] at this

theorem CA_of_VR {g z o : Nat} {es : List (List AV)} (h : VR κ w g z es o) : Rows z es ∧ CA κ w g o es.flatten := by
  induction es generalizing o with
  | nil => exact ⟨Rows.nil z, [], rfl, fun j v hv => by simp at hv⟩
  | cons e es ih =>
    simp only [VR] at h
    obtain ⟨h0, h1, h2⟩ := h
    obtain ⟨h3, vs, h4, h5⟩ := CA_of_VC h1
    obtain ⟨h6, us, h7, h8⟩ := ih h2
    refine ⟨(Rows.one h3 h0).append h6, vs ++ us, h4.append h7, fun j u hj => ?_⟩
    rw [List.getElem?_append] at hj
    have hl := h4.length
    split at hj
    · exact h5 j u hj
    · have := h8 _ u hj
      rwa [show o + z + (j - vs.length) = o + j from by omega] at this

theorem CA_of_VA {g : Nat} {arr : Array Value} {T : TypeId} {z b : Nat} {es : List (List AV)} (hg : w.heap[g]? = some (.cells arr T (0, 0))) (h : VA κ w arr z b es) : Rows z es ∧ CA κ w g b es.flatten := by
  obtain ⟨h1, h2, h3⟩ := VA_flat.1 h
  refine ⟨h1, _, h3, fun j v hj => ?_⟩
  rw [List.getElem?_take] at hj
  split at hj
  · rw [List.getElem?_drop, Array.getElem?_toList] at hj
    simp [World.cell?, hg, hj]
  · cases hj

theorem CA.seg {g o : Nat} {cs : List AV} (h : CA κ w g o cs) (k n : Nat) : CA κ w g (o + k) ((cs.drop k).take n) := by
  obtain ⟨vs, h1, h2⟩ := h
  refine ⟨(vs.drop k).take n, (h1.drop k).take n, fun j v hj => ?_⟩
  rw [List.getElem?_take] at hj
  split at hj
  · rw [List.getElem?_drop] at hj
    have := h2 _ v hj
    rwa [show o + (k + j) = o + k + j from by omega] at this
  · cases hj

/-- A variable is read. -/
theorem run_loadVar {t : TypeId} {ag : Bool} {n : Nat} (ha : isAg P t = some ag) (hn : size P t = some n) {g o : Nat} {cs : List AV} (h1 : cs.all AV.one = true) (hc : CA κ w g o cs) {f : Nat} {r : AV} (h : partOf ag f n cs = some r) :
    ∃ u, (loadVar t ⟨g, o + f, none⟩).run P w = .ok u w ∧ V κ w r u := by
  unfold partOf at h
  split at h
  · rename_i hle
    cases ag with
    | true =>
      simp at h
      subst h
      obtain ⟨vs, h2, h3⟩ := hc.seg f n
      have hlen : vs.length = n := by rw [← h2.length]; simp; omega
      have hld := run_loadCells_list (P := P) w ⟨g, o + f, none⟩ vs (fun j v hj => by rw [Addr.add_lit]; exact h3 j v hj)
      rw [hlen] at hld
      refine ⟨.agg vs.toArray, by simp [loadVar, run_isAg ha, run_sizeOf hn, hld], all_seg h1 f n, vs.toArray, rfl, by simpa using h2⟩
    | false =>
      simp at h
      obtain ⟨vs, h2, h3⟩ := hc
      obtain ⟨u, h4, h5⟩ := h2.get h
      exact ⟨u, by simp [loadVar, run_isAg ha, h3 f u h4], h5⟩
  · cases h

theorem rdRow_some {h : Heap} {i v : Nat} {es : List (List AV)} (hr : rdRow h i v = some es) : h[i]? = some (.cells v es) := by
  unfold rdRow at hr
  split at hr
  · rename_i v' es' he
    split at hr
    · rename_i hv; injection hr with hr; subst hr; subst hv; exact he
    · cases hr
  · cases hr

theorem bind_some {α β : Type} {x : Option α} {f : α → Option β} {b : β} (h : (x >>= f) = some b) : ∃ a, x = some a ∧ f a = some b := by
  cases x with
  | none => cases h
  | some a => exact ⟨a, rfl, h⟩

/-- What stands behind a box: its array. -/
theorem HInv.row (hi : HInv Γ κ H w) {i v : Nat} {es : List (List AV)} (hr : rdRow H i v = some es) {g b z : Nat} (hk : κ.box i v = some (g, b, z)) :
    (∃ (arr : Array Value) (T : TypeId), w.heap[g]? = some (.cells arr T (0, 0)) ∧ VA κ w arr z b es) ∧ (∀ o, ¬ κ.frz g o) :=
  hi.box i _ (rdRow_some hr) g b z hk

theorem VA_elem {arr : Array Value} {z b : Nat} {es : List (List AV)} {g : Nat} {T : TypeId} (hg : w.heap[g]? = some (.cells arr T (0, 0))) (h : VA κ w arr z b es) {e : Nat} {el : List AV} (he : es[e]? = some el) :
    el.length = z ∧ el.all AV.one = true ∧ CA κ w g (b + e * z) el := by
  obtain ⟨h1, h2⟩ := CA_of_VA hg h
  have hel : el.length = z := h1.1 el (List.mem_of_getElem? he)
  have h3 := h2.seg (e * z) z
  rw [flat_drop h1.1] at h3
  have h4 : (es.drop e).flatten.take z = el := by
    obtain ⟨h5, h6⟩ := List.getElem?_eq_some_iff.1 he
    rw [List.drop_eq_getElem_cons h5, h6, List.flatten_cons, List.take_append, ← hel]
    simp
  rw [h4] at h3
  refine ⟨hel, ?_, h3⟩
  rw [List.all_eq_true]
  intro x hx
  exact List.all_eq_true.1 h1.2 x (List.mem_flatten.2 ⟨el, List.mem_of_getElem? he, hx⟩)

/-- A load from a box. -/
theorem load_sound (hi : HInv Γ κ H w) {t : TypeId} {ag : Bool} {n : Nat} (ha : isAg P t = some ag) (hn : size P t = some n) {i v e f : Nat} {a : Value} (hv : V κ w (.ref i v e f) a) {es : List (List AV)} (hr : rdRow H i v = some es)
    {cs : List AV} (he : es[e]? = some cs) {r : AV} (h : partOf ag f n cs = some r) : ∃ u, (Instr.loadAt t a).run P w = .ok u w ∧ V κ w r u := by
  obtain ⟨g, b, z, hk, rfl⟩ := hv
  obtain ⟨⟨arr, T, hg, hva⟩, _⟩ := hi.row hr hk
  obtain ⟨_, h1, h2⟩ := VA_elem hg hva he
  obtain ⟨u, h3, h4⟩ := run_loadVar ha hn h1 h2 h
  exact ⟨u, by simp [Instr.loadAt, Instr.sureAddr, h3], h4⟩

/-- A load from frozen cells. -/
theorem fload_sound {t : TypeId} {ag : Bool} {n : Nat} (ha : isAg P t = some ag) (hn : size P t = some n) {cs : List AV} {a : Value} (hv : V κ w (.fptr cs) a) {r : AV} (h : partOf ag 0 n cs = some r) : ∃ u, (Instr.loadAt t a).run P w = .ok u w ∧ V κ w r u := by
  obtain ⟨g, o, rfl, hc⟩ := hv
  obtain ⟨h1, h2⟩ := CA_of_VC hc
  obtain ⟨u, h3, h4⟩ := run_loadVar ha hn h1 h2 h
  exact ⟨u, by simpa [Instr.loadAt, Instr.sureAddr] using h3, h4⟩

theorem mid_get {l vs : List Value} {o k : Nat} (h : o + vs.length ≤ l.length) : (l.take o ++ vs ++ l.drop (o + vs.length))[k]? = if o ≤ k ∧ k < o + vs.length then vs[k - o]? else l[k]? := by
  rw [List.getElem?_append, List.getElem?_append]
  simp only [List.length_append, List.length_take, Nat.min_eq_left (by omega : o ≤ l.length)]
  by_cases h1 : k < o + vs.length
  · rw [if_pos h1]
    by_cases h2 : k < o
    · rw [if_pos h2, if_neg (by omega), List.getElem?_take, if_pos h2]
    · rw [if_neg h2, if_pos (by omega)]
  · rw [if_neg h1, if_neg (by omega), List.getElem?_drop]
    congr 1
    omega

theorem shape_put {g : Nat} {arr arr' : Array Value} {T : TypeId} {fz fz' : Nat × Nat} (h1 : w.heap[g]? = some (.cells arr T fz)) (h2 : w'.heap[g]? = some (.cells arr' T fz')) (hs : arr'.size = arr.size) (s : TypeId × Nat) (h : w.shape? g = some s) : w'.shape? g = some s := by
  simp only [World.shape?, h1, h2, hs] at h ⊢
  exact h

/-- A row's elements are turned, flat: from place o on there are others. -/
theorem VA_mid {arr : Array Value} {z b : Nat} {es es' : List (List AV)} {o : Nat} {vs : List Value} (h : VA κ w arr z b es) (hle : Le κ w κ' w') (hlen : es'.length = es.length) (hr : Rows z es')
    (hfit : o + vs.length ≤ es.length * z) (hvs : VL κ' w' ((es'.flatten.drop o).take vs.length) vs) (h1 : es'.flatten.take o = es.flatten.take o) (h2 : es'.flatten.drop (o + vs.length) = es.flatten.drop (o + vs.length)) :
    VA κ' w' (arr.toList.take (b + o) ++ vs ++ arr.toList.drop (b + o + vs.length)).toArray z b es' := by
  obtain ⟨r1, r2, r3⟩ := VA_flat.1 (h.le hle)
  rw [VA_flat]
  refine ⟨hr, by simp [hlen]; omega, ?_⟩
  rw [VL_iff]
  have hfl := flat_len hr.1
  refine ⟨by rw [hfl]; simp [hlen]; omega, fun k a ha => ?_⟩
  have hk : k < es.length * z := by have := (List.getElem?_eq_some_iff.1 ha).1; rw [hfl, hlen] at this; exact this
  rw [List.getElem?_take, if_pos (by rw [hlen]; exact hk), List.getElem?_drop]
  simp only []
  rw [mid_get (by simp; omega)]
  by_cases hin : o ≤ k ∧ k < o + vs.length
  · rw [if_pos (by omega)]
    have : ((es'.flatten.drop o).take vs.length)[k - o]? = some a := by
      rw [List.getElem?_take, if_pos (by omega), List.getElem?_drop, show o + (k - o) = k from by omega]
      exact ha
    obtain ⟨v, h3, h4⟩ := hvs.get this
    exact ⟨v, by rw [show b + k - (b + o) = k - o from by omega]; exact h3, h4⟩
  · rw [if_neg (by omega)]
    have hold : es.flatten[k]? = some a := by
      by_cases hlt : k < o
      · have e1 : (es'.flatten.take o)[k]? = es'.flatten[k]? := by rw [List.getElem?_take, if_pos hlt]
        have e2 : (es.flatten.take o)[k]? = es.flatten[k]? := by rw [List.getElem?_take, if_pos hlt]
        rw [← e2, ← h1, e1, ha]
      · have e1 : (es'.flatten.drop (o + vs.length))[k - (o + vs.length)]? = es'.flatten[k]? := by rw [List.getElem?_drop]; congr 1; omega
        have e2 : (es.flatten.drop (o + vs.length))[k - (o + vs.length)]? = es.flatten[k]? := by rw [List.getElem?_drop]; congr 1; omega
        rw [← e2, ← h2, e1, ha]
    obtain ⟨v, h3, h4⟩ := r3.get hold
    rw [List.getElem?_take, if_pos hk, List.getElem?_drop] at h3
    exact ⟨v, h3, h4⟩

end Go.AM
end
