import Derived.Test.YtlnnhldhhaooiaaA10
import Derived.Laws.BytesString
import Derived.Laws.MakeOwn

set_option linter.unusedVariables false
set_option linter.unusedSimpArgs false
set_option linter.unusedSectionVars false
set_option linter.unnecessarySimpa false

section
/- Bytes, makes. -/
namespace Go.AM
open Go

variable {Γ : Env} {wp : Nat} {κ κ' : K} {H : Heap} {w w' : World} {P : Program}

/-- A string's bytes, as elements. -/
def byteEls (s : List UInt8) : List (List AV) := s.map fun b => [.int .u8 b.toNat]

theorem byteEls_flat (s : List UInt8) : (byteEls s).flatten = s.map fun b => AV.int .u8 b.toNat := by
  induction s with
  | nil => rfl
  | cons b s ih => simp only [byteEls, List.map_cons, List.flatten_cons] at ih ⊢; rw [ih]; rfl
theorem byteEls_rows (s : List UInt8) : Rows 1 (byteEls s) := by
  refine ⟨fun el he => ?_, ?_⟩
  · obtain ⟨b, _, rfl⟩ := List.mem_map.1 he; rfl
  · rw [byteEls_flat, List.all_eq_true]
    intro x hx
    obtain ⟨b, _, rfl⟩ := List.mem_map.1 hx
    rfl
theorem VL_bytes (s : List UInt8) : VL κ w (s.map fun b => AV.int .u8 b.toNat) (s.map fun b => Value.int .u8 b.toNat) := by
  rw [VL_iff]
  refine ⟨by simp, fun j a ha => ?_⟩
  simp only [List.getElem?_map, Option.map_eq_some_iff] at ha ⊢
  obtain ⟨b, hb, rfl⟩ := ha
  exact ⟨_, ⟨b, hb, rfl⟩, rfl⟩

theorem freeze_new (w : World) (cs : Array Value) (e : TypeId) (n : Nat) : New w ((w.drew.alloc (.cells cs e)).freeze ⟨w.heap.size, n, none⟩ 1) (.cells cs e (n, n + 1)) := by
  have hh : ((w.drew.alloc (.cells cs e)).freeze ⟨w.heap.size, n, none⟩ 1).heap = (w.heap.push (.cells cs e)).modify w.heap.size fun
      | .cells c elem (lo, hi) => .cells c elem (if lo == hi then (n, n + 1) else (min lo n, max hi (n + 1)))
      | o => o := by
    unfold World.freeze
    rw [if_neg (by decide)]
    rfl
  refine ⟨?_, fun k hk => ?_, ?_, rfl, rfl, rfl, by unfold World.freeze; rw [if_neg (by decide)]; exact Nat.le_succ _⟩
  · rw [hh, Array.getElem?_modify]
    simp
  · rw [hh, Array.getElem?_modify, if_neg (by omega)]
    simp [Array.getElem?_push, Nat.ne_of_lt hk]
  · rw [hh]; simp

/-- A row's elements, so many, from a place on. -/
theorem rdEls_CA (hi : HInv Γ κ H w) {i v o n : Nat} {g b z : Nat} (hk : κ.box i v = some (g, b, z)) {es : List (List AV)} (hr : rdEls H i v o n = some es) :
    Rows z es ∧ es.length = n ∧ CA κ w g (b + o * z) es.flatten := by
  obtain ⟨all, h1, h2⟩ := bind_some hr
  split at h2
  · rename_i hle
    injection h2 with h2
    subst h2
    obtain ⟨⟨arr, T, hg, hva⟩, _⟩ := hi.row h1 hk
    obtain ⟨r1, r2⟩ := CA_of_VA hg hva
    refine ⟨(r1.drop o).take n, by simp; omega, ?_⟩
    have := r2.seg (o * z) (n * z)
    rw [flat_drop r1.1, flat_take (r1.drop o).1] at this
    exact this
  · cases h2

theorem s2b_sound (hi : HInv Γ κ H w) {e : TypeId} {s : ByteArray} : Out Γ wp κ H w H (.fs (byteEls s.data.toList) false) ((do pure (.value (← Conv.stringToBytes e s)) : Sem Next).run P w) := by
  have hsz : s.data.size = s.size := rfl
  have hcap := grownCap_ge w s.size 0 e
  let cs : Array Value := s.data.map (fun b => Value.int .u8 b.toNat) ++ Array.replicate (grownCap w s.size 0 e - s.size) (Value.int .u8 0)
  have hn := freeze_new w cs e cs.size
  obtain ⟨hle, hh⟩ := hi.freezeNew (wp := wp) hn
  refine ⟨.slice (some ⟨w.heap.size, 0, none⟩) s.size (grownCap w s.size 0 e), _, _, .inl ?_, hle, hh, ?_⟩
  · have h1 : (newRow e cs).run P w.drew = .ok ⟨w.heap.size, 0, none⟩ (w.drew.alloc (.cells cs e)) := by simp [newRow]
    have h2 : (markStringish ⟨w.heap.size, 0, none⟩).run P (w.drew.alloc (.cells cs e)) = .ok () ((w.drew.alloc (.cells cs e)).freeze ⟨w.heap.size, cs.size, none⟩ 1) := by
      have h3 : (w.drew.alloc (.cells cs e)).shape? w.heap.size = some (e, cs.size) := by
        have := heap_alloc_new w.drew (.cells cs e)
        simp only [World.shape?]
        rw [show w.heap.size = w.drew.heap.size from rfl, this]
      simp [markStringish, h3]
    have h0 : (choose (.appendCap s.size 0 e)).run P w = .ok (grownCap w s.size 0 e) w.drew := by
      rw [run_choose]
      rfl
    simp only [Conv.stringToBytes, Sem.run_bind, h0, Result.andThen_ok]
    rw [show (Array.map (fun b => Value.int .u8 b.toNat) s.data ++ Array.replicate (grownCap w s.size 0 e - s.size) (Value.int .u8 0)) = cs from rfl, h1]
    simp only [Result.andThen_ok, h2, Sem.run_pure]
  · refine ⟨⟨w.heap.size, 0, none⟩, 1, grownCap w s.size 0 e, by simp [byteEls, hsz], by simpa [byteEls, hsz] using hcap, fun h => (by cases h), fun _ => rfl, ?_⟩
    refine VR_new (κ := κ) (w := w) (hle := hle) hn.new (byteEls_rows _) (by simp [byteEls, cs]) ?_ (fun o ho => .inr ⟨rfl, ho⟩)
    have := VL_bytes (κ := κ) (w := w) s.data.toList
    rw [byteEls_flat]
    have e1 : (cs.toList.take ((byteEls s.data.toList).length * 1)) = s.data.toList.map fun b => Value.int .u8 b.toNat := by
      simp [byteEls, cs]
    rw [e1]
    exact this

/-- Bytes of cells. -/
theorem bytesOf_some : ∀ {es : List (List AV)} {s : List UInt8}, bytesOf es = some s → ∃ ns : List Int, es = ns.map (fun n => [.int .u8 n]) ∧ s = ns.map fun n => UInt8.ofNat n.toNat
  | [], s, h => by simp [bytesOf] at h; subst h; exact ⟨[], rfl, rfl⟩
  | [.int .u8 n] :: rest, s, h => by
    simp only [bytesOf, Option.map_eq_some_iff] at h
    obtain ⟨r, hr, rfl⟩ := h
    obtain ⟨ns, h1, h2⟩ := bytesOf_some hr
    exact ⟨n :: ns, by simp [h1], by simp [h2]⟩

theorem foldl_push (ns : List Int) (s : ByteArray) : (ns.foldl (fun r n => r.push (UInt8.ofNat n.toNat)) s).data.toList = s.data.toList ++ ns.map fun n => UInt8.ofNat n.toNat := by
  induction ns generalizing s with
  | nil => simp
  | cons n ns ih => simp only [List.foldl_cons, ih, List.map_cons]; simp [ByteArray.push]

theorem b2s_run {es : List (List AV)} {s : List UInt8} (hb : bytesOf es = some s) {g o cap : Nat} (hc : CA κ w g o es.flatten) :
    ∃ u, (Conv.bytesToString (.slice (some ⟨g, o, none⟩) es.length cap)).run P w = .ok u w ∧ V κ w (.str s) u := by
  obtain ⟨ns, h1, h2⟩ := bytesOf_some hb
  obtain ⟨vs, h3, h4⟩ := hc
  have hfl : es.flatten = ns.map fun n => AV.int .u8 n := by
    subst h1
    clear h2 h3 h4 hb
    induction ns with
    | nil => rfl
    | cons n ns ih => simp only [List.map_cons, List.flatten_cons, ih]; rfl
  have hvs : vs = ns.map (Value.int .u8) := by
    rw [hfl] at h3
    clear h1 h2 h4 hfl hb
    induction ns generalizing vs with
    | nil => exact h3
    | cons n ns ih =>
      obtain ⟨v, us, rfl, h5, h6⟩ := h3
      have := ih us h6
      rw [this, show v = .int .u8 n from h5]
      rfl
  have hld := run_loadCells_list (P := P) w ⟨g, o, none⟩ vs (fun j v hj => by rw [Addr.add_lit]; exact h4 j v hj)
  have hlen : es.length = vs.length := by rw [h1, hvs]; simp
  rw [← hlen, hvs] at hld
  exact ⟨_, run_bytesToString w _ _ cap ns hld, _, rfl, by rw [foldl_push, h2]; simp⟩

theorem b2s_nil {a : Addr} {cap : Nat} : ∃ u, (Conv.bytesToString (.slice (some a) 0 cap)).run P w = .ok u w ∧ V κ w (.str []) u :=
  ⟨_, run_bytesToString w a 0 cap [] (by simpa using run_loadCells_list (P := P) w a [] (by simp)), _, rfl, rfl⟩

theorem b2s_fs {es : List (List AV)} {x : Bool} {u : Value} (hu : V κ w (.fs es x) u) {s : List UInt8} (hb : bytesOf es = some s) :
    ∃ v, (Conv.bytesToString u).run P w = .ok v w ∧ V κ w (.str s) v := by
  obtain ⟨a, z, cap, rfl, h1, h2, h3, h4⟩ := hu
  cases es with
  | nil => simp [bytesOf] at hb; subst hb; exact b2s_nil
  | cons e es =>
    have ha : a = ⟨a.block, a.off, none⟩ := by have := h3 (by simp); cases a; simp_all
    rw [ha]
    exact b2s_run hb (CA_of_VR h4).2

theorem b2s_row (hi : HInv Γ κ H w) {i v o n c z : Nat} {u : Value} (hu : V κ w (.row i v o n c z) u) {es : List (List AV)} (hr : rdEls H i v o n = some es) {s : List UInt8} (hb : bytesOf es = some s) :
    ∃ v, (Conv.bytesToString u).run P w = .ok v w ∧ V κ w (.str s) v := by
  obtain ⟨g, b, cap, hk, rfl, _⟩ := hu
  obtain ⟨_, h2, h3⟩ := rdEls_CA hi hk hr
  rw [← h2]
  exact b2s_run hb h3

theorem wrap_small {c : Int} (h0 : 0 ≤ c) (h1 : c ≤ 140737488355328) : IntKind.i64.wrap c = c := by
  rw [IntKind.wrap_i64]; omega

/-- A slice is made. -/
theorem mkslice_sound (hi : HInv Γ κ H w) {t e : TypeId} {z : List AV} {by' : Nat} (ht : P.underlying t = some (.slice e)) (hz : zero P e = some z) (hb : bytes P e = some by') {kl kc : IntKind} {l c : Int}
    (h0 : 0 ≤ l) (h1 : l ≤ c) (h2 : c * by' ≤ maxLn) (h3 : c ≤ maxLn) :
    Out Γ wp κ H w (H ++ [.cells 1 (List.replicate c.toNat z)]) (.row H.length 1 0 l.toNat c.toNat z.length) ((do pure (.value (← Instr.makeSlice t (.int kl l) (.int kc c))) : Sem Next).run P w) := by
  obtain ⟨zv, z1, z2, z3, i, z4, z5, z6⟩ := run_zero hz
  obtain ⟨i', hi', hby⟩ := bytes_some hb
  rw [z4] at hi'
  injection hi' with hi'
  subst hi'
  have hzl : zv.cells.size = z.length := by have := (z2 κ w).length; simp at this; exact this.symm
  have hmx : maxLn = 140737488355328 := rfl
  have hrun := run_make (P := P) w t e i zv ht z4 z5 kl kc l c h0 h1 (by rw [hby, Int.mul_comm]; omega) (by omega)
  let vs := madeCells zv.cells (c.toNat * i.size)
  have hvs : vs.toList = (List.replicate c.toNat zv.cells.toList).flatten := by
    have := zeros_list zv.cells c.toNat
    simp only [vs, madeCells, z6]
    rw [← hzl]
    exact this
  have hsz : vs.size = c.toNat * z.length := by simp [vs, madeCells, z6]
  obtain ⟨hle, hh⟩ := hi.pushRowV 1 (wp := wp) (New.alloc w (.cells vs e)) (z := z.length) (es := List.replicate c.toNat z) (Rows.replicate z3 rfl _) (by simp [hsz]) (by
    rw [List.length_replicate, List.take_of_length_le (by rw [Array.length_toList, hsz]; exact Nat.le_refl _), hvs]
    exact VL_replicate (z2 κ w) _)
  refine ⟨_, _, w.alloc (.cells vs e), .inl ?_, hle, hh, V_row_exact (heap_alloc_new w (.cells vs e)) (n := l.toNat) (c := c.toNat) (by omega) (by rw [hsz]; exact Nat.le_refl _)⟩
  simp only [Sem.run_bind, hrun, Result.andThen_ok, Sem.run_pure]
  rfl

/-- A map is made. -/
theorem newmap_sound (hi : HInv Γ κ H w) {t : TypeId} {ks : List Nat} : Out Γ wp κ H w (H ++ [.map ks []]) (.map H.length) ((do pure (.value (← Instr.makeMap t none)) : Sem Next).run P w) := by
  obtain ⟨hle, hh⟩ := hi.push (wp := wp) (New.alloc w (.map #[] 0)) (.map ks []) 0 fun hle => by
    intro g b z' hk
    rw [K.add_self] at hk
    injection hk with hk
    injection hk with e1 e2
    subst e1
    refine ⟨⟨#[], 0, heap_alloc_new w _, rfl, fun j k v hj => by simp at hj, rfl, fun j x hx => by simp at hx⟩, fun o ho => ?_⟩
    obtain ⟨v, h1⟩ := hi.frz _ _ ho
    exact absurd (lt_of_cell h1) (Nat.lt_irrefl _)
  refine ⟨_, _, _, .inl ?_, hle, hh, _, _, _, K.add_self _ _ _ _, rfl⟩
  simp [Instr.makeMap]

/-- What is appended, or copied. -/
theorem src_sound (hi : HInv Γ κ H w) {z : Nat} {xv : AV} {x : Value} (hx : V κ w xv x) {src : AM.Src} (hs : srcOf z xv = some src) {new : List (List AV)} (hn : rdSrc H src = some new) {tx : TypeId}
    (hk : (∃ e', P.underlying tx = some (.slice e')) ∨ P.underlying tx = some .string) : Rows z new ∧ ∃ us, Go.Src P z tx x new.length us w ∧ VL κ w new.flatten us := by
  have onil : ∀ (a : Option Addr) (c : Nat), ∀ w : World, (Builtin.firstCells z 0 (.slice a 0 c)).run P w = .ok (#[] : Array Value) w := by
    intro a c w
    cases a with
    | none => rfl
    | some a => simpa using run_firstCells_some (P := P) w z 0 a 0 c [] (by simp) (by simp)
  cases xv <;> simp only [srcOf] at hs <;> try (cases hs; done)
  case nils =>
    injection hs with hs
    subst hs
    simp only [rdSrc] at hn
    injection hn with hn
    subst hn
    cases hx
    exact ⟨Rows.nil z, [], ⟨hk, fun _ => rfl, onil _ _ w, onil _ _ w.drew, by simp, fun _ h => by cases h⟩, rfl⟩
  case fs es full =>
    split at hs
    · rename_i hall
      injection hs with hs
      subst hs
      simp only [rdSrc] at hn
      injection hn with hn
      subst hn
      obtain ⟨a, z', cap, rfl, h1, h2, h3, h4⟩ := hx
      cases hes : es with
      | nil => exact ⟨Rows.nil z, [], ⟨hk, fun _ => rfl, onil _ _ w, onil _ _ w.drew, by simp, fun _ h => by cases h⟩, rfl⟩
      | cons e1 es1 =>
        rw [← hes]
        have hne : es ≠ [] := by rw [hes]; simp
        have ha : a = ⟨a.block, a.off, none⟩ := by have := h3 hne; cases a; simp_all
        obtain ⟨r1, us, r2, r3⟩ := CA_of_VR h4
        have hz : z' = z := by
          have q1 := r1.1 e1 (by rw [hes]; simp)
          have q2 := List.all_eq_true.1 hall e1 (by rw [hes]; simp)
          simp at q2
          omega
        subst hz
        refine ⟨r1, us, ?_, r2⟩
        have hl : us.length = es.length * z' := by rw [← r2.length, flat_len r1.1]
        have hc : ∀ (j : Nat) (u : Value), us[j]? = some u → w.cell? (a.add j) = some u := fun j u hj => by
          rw [ha, Addr.add_lit]; exact r3 j u hj
        exact ⟨hk, fun _ => rfl, run_firstCells_some w z' es.length a es.length cap us hl hc, run_firstCells_some w.drew z' es.length a es.length cap us hl (by simpa using hc), hl, r2.ones r1.2⟩
    · cases hs
  case row i v o n c zr =>
    split at hs
    · rename_i hz
      subst hz
      injection hs with hs
      subst hs
      simp only [rdSrc] at hn
      obtain ⟨g, b, cap, hk', rfl, _⟩ := hx
      obtain ⟨r1, r4, us, r2, r3⟩ := rdEls_CA hi hk' hn
      have hl : us.length = new.length * zr := by rw [← r2.length, flat_len r1.1]
      have hc : ∀ (j : Nat) (u : Value), us[j]? = some u → w.cell? ((⟨g, b + o * zr, none⟩ : Addr).add j) = some u := fun j u hj => by
        rw [Addr.add_lit]; exact r3 j u hj
      rw [← r4]
      exact ⟨r1, us, ⟨hk, fun _ => rfl, run_firstCells_some w zr new.length _ new.length cap us hl hc, run_firstCells_some w.drew zr new.length _ new.length cap us hl (by simpa using hc), hl, r2.ones r1.2⟩, r2⟩
    · cases hs
  case str s =>
    split at hs
    · rename_i hz
      subst hz
      injection hs with hs
      subst hs
      simp only [rdSrc] at hn
      injection hn with hn
      subst hn
      obtain ⟨s', rfl, rfl⟩ := hx
      refine ⟨byteEls_rows _, byteCells s', ?_, ?_⟩
      · have hl : (s'.data.toList.map fun b => [AV.int .u8 b.toNat]).length = s'.size := by simp
        rw [hl]
        have hb := byteCells_length s'
        exact ⟨hk, fun _ => rfl, firstCells_string s' w, firstCells_string s' w.drew, by omega, fun u hu => by
          obtain ⟨_, _, rfl⟩ := List.mem_map.1 hu; rfl⟩
      · have := VL_bytes (κ := κ) (w := w) s'.data.toList
        rw [← byteEls_flat] at this
        exact this
    · cases hs

end Go.AM
end
