import Derived.Test.YtlnnhldhhaooiaaA16

set_option linter.unusedVariables false
set_option linter.unusedSimpArgs false
set_option linter.unusedSectionVars false
set_option linter.unnecessarySimpa false

section
/- Pieces of slices; places; small operations. -/
namespace Go.AM
open Go

variable {Γ : Env} {wp : Nat} {κ κ' : K} {H : Heap} {w w' : World} {P : Program}

def OV (κ : K) (w : World) : Option AV → Option Value → Prop
  | none, none => True
  | some a, some v => V κ w a v
  | _, _ => False

theorem optNat_sound {a : Option AV} {v : Option Value} (h : OV κ w a v) {d n : Nat} (hn : optNat a d = some n) : (a = none ∧ v = none ∧ n = d) ∨ ∃ k i, v = some (.int k i) ∧ 0 ≤ i ∧ i.toNat = n := by
  cases a with
  | none =>
    cases v with
    | none => simp [optNat] at hn; exact .inl ⟨rfl, rfl, hn.symm⟩
    | some v => exact absurd h (by simp [OV])
  | some a =>
    cases v with
    | none => exact absurd h (by simp [OV])
    | some v =>
      simp only [OV] at h
      cases a <;> simp only [optNat, asNat, reduceCtorEq] at hn
      cases h
      split at hn
      · rename_i h0
        injection hn with hn
        exact .inr ⟨_, _, rfl, h0, hn⟩
      · cases hn

theorem run_bounds {isSlice : Bool} {len cap : Nat} {lo hi mx : Option Value} {l h m : Nat} (hm : (mx = none ∧ m = cap) ∨ (∃ k i, mx = some (.int k i) ∧ 0 ≤ i ∧ i.toNat = m) ∧ m ≤ cap ∧ hi ≠ none) (hh : (hi = none ∧ h = len) ∨ ∃ k i, hi = some (.int k i) ∧ 0 ≤ i ∧ i.toNat = h)
    (hl : (lo = none ∧ l = 0) ∨ ∃ k i, lo = some (.int k i) ∧ 0 ≤ i ∧ i.toNat = l) (h1 : l ≤ h) (h2 : h ≤ m) : (Instr.sliceBounds isSlice len cap lo hi mx).run P w = .ok (l, h, m) w := by
  have hsb : ∀ (k : IntKind) (i : Int) (y : Nat) (code : BoundsCode), 0 ≤ i → i.toNat ≤ y → (Instr.sliceBound (.int k i) y code).run P w = .ok i.toNat w := fun k i y code h0 h1 => run_sliceBound w k i y code h0 (by omega)
  rcases hm with ⟨rfl, rfl⟩ | ⟨⟨km, im, rfl, m0, rfl⟩, mc, hne⟩
  · rcases hh with ⟨rfl, rfl⟩ | ⟨kh, ih, rfl, h0, rfl⟩
    · rcases hl with ⟨rfl, rfl⟩ | ⟨kl, il, rfl, l0, rfl⟩
      · simp [Instr.sliceBounds]
      · simp [Instr.sliceBounds, hsb _ _ _ _ l0 h1]
    · rcases hl with ⟨rfl, rfl⟩ | ⟨kl, il, rfl, l0, rfl⟩
      · simp [Instr.sliceBounds, hsb _ _ _ _ h0 h2]
      · simp [Instr.sliceBounds, hsb _ _ _ _ h0 h2, hsb _ _ _ _ l0 h1]
  · rcases hh with ⟨rfl, rfl⟩ | ⟨kh, ih, rfl, h0, rfl⟩
    · exact absurd rfl hne
    · rcases hl with ⟨rfl, rfl⟩ | ⟨kl, il, rfl, l0, rfl⟩
      · simp [Instr.sliceBounds, hsb _ _ _ _ m0 mc, hsb _ _ _ _ h0 h2]
      · simp [Instr.sliceBounds, hsb _ _ _ _ m0 mc, hsb _ _ _ _ h0 h2, hsb _ _ _ _ l0 h1]

theorem run_sliceAt_slice {t e : TypeId} (ht : P.underlying t = some (.slice e)) {z : Nat} (hz : size P e = some z) {a : Option Addr} {len cap : Nat} {lo hi mx : Option Value} {l h m : Nat} (hb : (Instr.sliceBounds true len cap lo hi mx).run P w = .ok (l, h, m) w) :
    (Instr.sliceAt t (.slice a len cap) lo hi mx).run P w = .ok (.slice (if m = l then a else a.map (·.add (l * z))) (h - l) (m - l)) w := by
  simp [Instr.sliceAt, Instr.slice, run_underlying ht, hb, run_sizeOf hz]

theorem VR_drop {g z o : Nat} {es : List (List AV)} (h : VR κ w g z es o) (k : Nat) : VR κ w g z (es.drop k) (o + k * z) := by
  rw [VR_iff] at h ⊢
  intro e el he
  rw [List.getElem?_drop] at he
  have := h _ el he
  rwa [show o + (k + e) * z = o + k * z + e * z from by rw [Nat.add_mul]; omega] at this
theorem VR_take {g z o : Nat} {es : List (List AV)} (h : VR κ w g z es o) (k : Nat) : VR κ w g z (es.take k) o := by
  rw [VR_iff] at h ⊢
  intro e el he
  rw [List.getElem?_take] at he
  split at he
  · exact h _ el he
  · cases he

theorem cut_slice {t e : TypeId} (ht : P.underlying t = some (.slice e)) {z : Nat} (hz : size P e = some z) {x : AV} {u : Value} (hx : V κ w x u) {lo hi mx : Option AV} {lo' hi' mx' : Option Value} (hlo : OV κ w lo lo') (hhi : OV κ w hi hi') (hmx : OV κ w mx mx')
    (hne : mx.isSome = true → hi.isSome = true) (hns : ∀ s, x ≠ .str s) {r : AV} (hr : cut z x lo hi mx = some r) : ∃ v, (Instr.sliceAt t u lo' hi' mx').run P w = .ok v w ∧ V κ w r v := by
  have hne' : mx' ≠ none → hi' ≠ none := by
    intro h
    cases mx with
    | none => cases mx' with | none => exact absurd rfl h | some _ => exact absurd hmx (by simp [OV])
    | some a =>
      have := hne rfl
      cases hi with
      | none => simp at this
      | some b => cases hi' with | none => exact absurd hhi (by simp [OV]) | some _ => simp
  cases x <;> simp only [cut, reduceCtorEq] at hr
  case str s => exact absurd rfl (hns s)
  case nils =>
    obtain ⟨m, hm, hr1⟩ := bind_some hr
    obtain ⟨h, hh, hr2⟩ := bind_some hr1
    obtain ⟨l, hl, hr3⟩ := bind_some hr2
    clear hr hr1 hr2
    split at hr3
    · rename_i h0
      injection hr3 with hr3
      subst hr3
      obtain ⟨rfl, rfl, rfl⟩ := h0
      cases hx
      have hb : (Instr.sliceBounds true 0 0 lo' hi' mx').run P w = .ok (0, 0, 0) w := by
        refine run_bounds ?_ ?_ ?_ (Nat.le_refl _) (Nat.le_refl _)
        · rcases optNat_sound hmx hm with ⟨_, h, _⟩ | h
          · exact .inl ⟨h, rfl⟩
          · exact .inr ⟨h, Nat.le_refl _, hne' (by obtain ⟨k, i, e, _⟩ := h; rw [e]; simp)⟩
        · rcases optNat_sound hhi hh with ⟨_, h, _⟩ | h
          · exact .inl ⟨h, rfl⟩
          · exact .inr h
        · rcases optNat_sound hlo hl with ⟨_, h, _⟩ | h
          · exact .inl ⟨h, rfl⟩
          · exact .inr h
      exact ⟨_, run_sliceAt_slice ht hz hb, by simp [V]⟩
    · cases hr3
  case fs es full =>
    obtain ⟨h, hh, hr1⟩ := bind_some hr
    obtain ⟨l, hl, hr2⟩ := bind_some hr1
    clear hr hr1
    have hr := hr2
    clear hr2
    split at hr
    · rename_i h0
      obtain ⟨h1, h2, h3⟩ := h0
      obtain ⟨a, z', cap, rfl, c1, c2, c3, c4⟩ := hx
      have hzz : es ≠ [] → z' = z := by
        intro hes
        cases es with
        | nil => exact absurd rfl hes
        | cons e1 es1 =>
          have q1 := (VR_iff _ _).1 c4 0 e1 rfl
          have q2 := List.all_eq_true.1 h3 e1 (by simp)
          simp at q2
          omega
      have hbl := optNat_sound hlo hl
      have hbh := optNat_sound hhi hh
      have fin : ∀ m, h ≤ m → m ≤ cap → (Instr.sliceBounds true es.length cap lo' hi' mx').run P w = .ok (l, h, m) w → ∀ x : Bool, (x = true → m = h) → ∃ v, (Instr.sliceAt t (.slice (some a) es.length cap) lo' hi' mx').run P w = .ok v w ∧ V κ w (.fs ((es.take h).drop l) x) v := by
        intro m hm1 hm2 hb x hx
        refine ⟨_, run_sliceAt_slice ht hz hb, ?_⟩
        have hlen : ((es.take h).drop l).length = h - l := by simp; omega
        by_cases hml : m = l
        · have h0 : (es.take h).drop l = [] := List.eq_nil_of_length_eq_zero (by omega)
          rw [h0]
          refine ⟨a, z', m - l, ?_, Nat.zero_le _, fun hx' => ?_, fun h => absurd rfl h, trivial⟩
          · simp [hml]; omega
          · have := hx hx'; simp; omega
        · refine ⟨a.add (l * z), z, m - l, ?_, ?_, fun hx' => ?_, fun hne => ?_, ?_⟩
          · simp [hml, hlen]
          · omega
          · have := hx hx'; omega
          · have : es ≠ [] := by rintro rfl; simp at hne
            have := c3 this
            simp only [Addr.add]; split
            · exact this
            · rfl
          · by_cases hes : es = []
            · subst hes; simp [VR]
            · have := c3 hes
              have ha : a.add (l * z) = ⟨a.block, a.off + l * z, none⟩ := by
                have e : a = ⟨a.block, a.off, none⟩ := by cases a; simp_all
                rw [e]; exact Addr.add_lit _ _ _
              rw [ha, ← hzz hes, List.drop_take]
              exact VR_take (VR_drop c4 l) _
      cases mx with
      | none =>
        cases mx' with
        | some _ => exact absurd hmx (by simp [OV])
        | none =>
          simp only [] at hr
          injection hr with hr
          subst hr
          refine fin cap (by omega) (Nat.le_refl _) (run_bounds (.inl ⟨rfl, rfl⟩) ?_ ?_ h1 (by omega)) _ (fun hx => ?_)
          · rcases hbh with ⟨_, h, rfl⟩ | h
            · exact .inl ⟨h, rfl⟩
            · exact .inr h
          · rcases hbl with ⟨_, h, rfl⟩ | h
            · exact .inl ⟨h, rfl⟩
            · exact .inr h
          · simp at hx; rw [c2 hx.1]; exact hx.2.symm
      | some mv =>
        simp only [] at hr
        obtain ⟨m, hm, hr1⟩ := bind_some hr
        clear hr
        have hr := hr1
        clear hr1
        split at hr
        · rename_i hmm
          injection hr with hr
          subst hr
          rcases optNat_sound hmx (d := 0) (n := m) hm with ⟨h, _⟩ | hmb
          · cases h
          · refine fin m hmm.1 (by omega) (run_bounds (.inr ⟨hmb, by omega, hne' (by obtain ⟨k, i, e, _⟩ := hmb; rw [e]; simp)⟩) ?_ ?_ h1 hmm.1) _ (fun hx => ?_)
            · rcases hbh with ⟨_, h, rfl⟩ | h
              · exact .inl ⟨h, rfl⟩
              · exact .inr h
            · rcases hbl with ⟨_, h, rfl⟩ | h
              · exact .inl ⟨h, rfl⟩
              · exact .inr h
            · simp at hx; exact hx.symm
        · cases hr
    · cases hr
  case row i v o n c zr =>
    obtain ⟨h, hh, hr1⟩ := bind_some hr
    obtain ⟨l, hl, hr2⟩ := bind_some hr1
    clear hr hr1
    have hr := hr2
    clear hr2
    split at hr
    · rename_i h0
      obtain ⟨h1, h2, rfl⟩ := h0
      obtain ⟨g, b, cap, hk, rfl, c1, c2, T, m', c3, c4⟩ := hx
      have hbl := optNat_sound hlo hl
      have hbh := optNat_sound hhi hh
      have hbh' : (hi' = none ∧ h = n) ∨ ∃ k i, hi' = some (.int k i) ∧ 0 ≤ i ∧ i.toNat = h := by
        rcases hbh with ⟨_, h, rfl⟩ | h
        · exact .inl ⟨h, rfl⟩
        · exact .inr h
      have hbl' : (lo' = none ∧ l = 0) ∨ ∃ k i, lo' = some (.int k i) ∧ 0 ≤ i ∧ i.toNat = l := by
        rcases hbl with ⟨_, h, rfl⟩ | h
        · exact .inl ⟨h, rfl⟩
        · exact .inr h
      have fin : ∀ m c', m ≤ cap → (Instr.sliceBounds true n cap lo' hi' mx').run P w = .ok (l, h, m) w → h - l ≤ c' → c' ≤ m - l → (m ≠ l ∨ l = 0) → (v % 2 = 1 → m - l = c') → ∃ u, (Instr.sliceAt t (.slice (some ⟨g, b + o * zr, none⟩) n cap) lo' hi' mx').run P w = .ok u w ∧ V κ w (.row i v (o + l) (h - l) c' zr) u := by
        intro m c' hm2 hb hc1 hc2 hml hex
        refine ⟨_, run_sliceAt_slice ht hz hb, g, b, m - l, hk, ?_, hc1, hc2, T, m', c3, ?_⟩
        · congr 1
          by_cases hm : m = l
          · have : l = 0 := by rcases hml with h | h; exact absurd hm h; exact h
            subst this
            simp [hm]
          · rw [if_neg hm, Option.map_some, Addr.add_lit, Nat.add_mul]
            congr 2
            omega
        · have : (o + l + (m - l)) * zr ≤ (o + cap) * zr := Nat.mul_le_mul_right _ (by
            have : l ≤ m ∨ m < l := by omega
            omega)
          exact ⟨by omega, hex⟩
      have fin0 : ∀ m (x : Bool), (Instr.sliceBounds true n cap lo' hi' mx').run P w = .ok (l, h, m) w → h = l → (x = true → m = l) → ∃ u, (Instr.sliceAt t (.slice (some ⟨g, b + o * zr, none⟩) n cap) lo' hi' mx').run P w = .ok u w ∧ V κ w (.fs [] x) u := by
        intro m x hb hhl hx
        refine ⟨_, run_sliceAt_slice ht hz hb, ?_⟩
        by_cases hml : m = l
        · exact ⟨⟨g, b + o * zr, none⟩, zr, m - l, by rw [if_pos hml, hhl]; simp, Nat.zero_le _, fun _ => by simp; omega, fun h => absurd rfl h, trivial⟩
        · exact ⟨(⟨g, b + o * zr, none⟩ : Addr).add (l * zr), zr, m - l, by rw [if_neg hml, hhl]; simp, Nat.zero_le _, fun h => absurd (hx h) hml, fun h => absurd rfl h, trivial⟩
      cases mx with
      | none =>
        cases mx' with
        | some _ => exact absurd hmx (by simp [OV])
        | none =>
          have hb := run_bounds (P := P) (w := w) (isSlice := true) (cap := cap) (.inl ⟨rfl, rfl⟩) hbh' hbl' h1 (by omega)
          simp only [] at hr
          split at hr
          · rename_i hlc
            injection hr with hr
            subst hr
            exact fin cap (c - l) (Nat.le_refl _) hb (by omega) (by omega) (by omega) (fun h => by rw [c4.2 h])
          · injection hr with hr
            subst hr
            exact fin0 cap false hb (by omega) (fun h => by cases h)
      | some mv =>
        simp only [] at hr
        obtain ⟨m, hm, hr1⟩ := bind_some hr
        clear hr
        have hr := hr1
        clear hr1
        split at hr
        · rename_i hmm
          rcases optNat_sound hmx (d := 0) (n := m) hm with ⟨h, _⟩ | hmb
          · cases h
          · have hb := run_bounds (P := P) (w := w) (isSlice := true) (cap := cap) (.inr ⟨hmb, by omega, hne' (by obtain ⟨k, i, e, _⟩ := hmb; rw [e]; simp)⟩) hbh' hbl' h1 hmm.1
            split at hr
            · rename_i hlm
              injection hr with hr
              subst hr
              exact fin0 m true hb (by omega) (fun _ => hlm.symm)
            · rename_i hlm
              injection hr with hr
              subst hr
              exact fin m (m - l) (by omega) hb (by omega) (Nat.le_refl _) (.inl (Ne.symm hlm)) (fun _ => rfl)
        · cases hr
    · cases hr

theorem cut_string {t : TypeId} (ht : P.underlying t = some .string) {z : Nat} {s : List UInt8} {u : Value} (hx : V κ w (.str s) u) {lo hi mx : Option AV} {lo' hi' mx' : Option Value} (hlo : OV κ w lo lo') (hhi : OV κ w hi hi') (hmx : OV κ w mx mx')
    {r : AV} (hr : cut z (.str s) lo hi mx = some r) : ∃ v, (Instr.sliceAt t u lo' hi' mx').run P w = .ok v w ∧ V κ w r v := by
  obtain ⟨b, rfl, rfl⟩ := hx
  simp only [cut] at hr
  cases mx with
  | some _ => simp at hr
  | none =>
    cases mx' with
    | some _ => exact absurd hmx (by simp [OV])
    | none =>
      simp only [Option.isSome_none, Bool.false_eq_true, if_false] at hr
      obtain ⟨h, hh, hr1⟩ := bind_some hr
      obtain ⟨l, hl, hr2⟩ := bind_some hr1
      clear hr hr1
      split at hr2
      · rename_i h0
        injection hr2 with hr2
        subst hr2
        have hsz : b.data.toList.length = b.size := by simp
        rw [hsz] at h0 hh
        have hb := run_bounds (P := P) (w := w) (isSlice := false) (cap := b.size) (len := b.size) (lo := lo') (hi := hi') (mx := none) (l := l) (h := h) (.inl ⟨rfl, rfl⟩)
          (by
            rcases optNat_sound hhi hh with ⟨_, h, rfl⟩ | h
            · exact .inl ⟨h, rfl⟩
            · exact .inr h)
          (by
            rcases optNat_sound hlo hl with ⟨_, h, rfl⟩ | h
            · exact .inl ⟨h, rfl⟩
            · exact .inr h) h0.1 h0.2
        refine ⟨.string (b.extract l h), by simp [Instr.sliceAt, Instr.slice, run_underlying ht, hb], _, rfl, ?_⟩
        simp [ByteArray.extract, ByteArray.copySlice, List.drop_take]
      · cases hr2

/-! ### Places -/
theorem fld_sound {t : TypeId} {fs : Array Field} (ht : P.underlying t = some (.struct fs)) {i : Nat} {f : Field} (hf : fs[i]? = some f) {n : Nat} (hn : size P f.type = some n) (hn0 : n ≠ 0) {x : AV} {u : Value} (hx : V κ w x u) {r : AV}
    (hr : (∃ i v e f', x = .ref i v e f' ∧ r = .ref i v e (f' + f.offset)) ∨ (∃ cs, x = .fptr cs ∧ f.offset ≤ cs.length ∧ r = .fptr (cs.drop f.offset))) :
    ∃ v, (Instr.fieldAt t u i).run P w = .ok v w ∧ V κ w r v := by
  have run : ∀ a : Addr, (Instr.fieldAt t (.pointer (some a)) i).run P w = .ok (.pointer (some (a.add f.offset))) w := fun a => by
    simp [Instr.fieldAt, run_underlying ht, hf, Instr.sureAddr, fieldPlace, run_sizeOf hn, hn0]
  rcases hr with ⟨i', v, e, f', rfl, rfl⟩ | ⟨cs, rfl, hle, rfl⟩
  · obtain ⟨g, b, z, hk, rfl⟩ := hx
    exact ⟨_, run _, g, b, z, hk, by rw [Addr.add_lit, Nat.add_assoc]⟩
  · obtain ⟨g, o, rfl, hc⟩ := hx
    refine ⟨_, run _, g, o + f.offset, by rw [Addr.add_lit], ?_⟩
    rw [VC_iff] at hc ⊢
    intro j a ha
    rw [List.getElem?_drop] at ha
    have := hc _ a ha
    rwa [show o + (f.offset + j) = o + f.offset + j from by omega] at this

theorem VC_drop {g o : Nat} {cs : List AV} (h : VC κ w g cs o) (k : Nat) : VC κ w g (cs.drop k) (o + k) := by
  rw [VC_iff] at h ⊢
  intro j a ha
  rw [List.getElem?_drop] at ha
  have := h _ a ha
  rwa [show o + (k + j) = o + k + j from by omega] at this

theorem ixs_sound {t e : TypeId} (ht : P.underlying t = some (.slice e)) {z : Nat} (hz : size P e = some z) {x : AV} {u : Value} (hx : V κ w x u) {k : IntKind} {n : Int} (h0 : 0 ≤ n) {r : AV}
    (hr : (∃ es full cs, x = .fs es full ∧ es[n.toNat]? = some cs ∧ cs.length = z ∧ r = .fptr cs) ∨ (∃ i v o m c, x = .row i v o m c z ∧ n < m ∧ r = .ref i v (o + n.toNat) 0)) :
    ∃ v, (Instr.indexAt t u (.int k n)).run P w = .ok v w ∧ V κ w r v := by
  have run : ∀ (a : Addr) (len cap : Nat), n < len → (Instr.indexAt t (.slice (some a) len cap) (.int k n)).run P w = .ok (.pointer (some (a.add (n.toNat * z)))) w := fun a len cap hl => by
    simp [Instr.indexAt, asIntOf, run_underlying ht, h0, hl, run_sizeOf hz]
  rcases hr with ⟨es, full, cs, rfl, he, hl, rfl⟩ | ⟨i, v, o, m, c, rfl, hl, rfl⟩
  · obtain ⟨a, z', cap, rfl, c1, c2, c3, c4⟩ := hx
    have hlt : n.toNat < es.length := (List.getElem?_eq_some_iff.1 he).1
    have ha : a = ⟨a.block, a.off, none⟩ := by have := c3 (by rintro rfl; simp at hlt); cases a; simp_all
    obtain ⟨q1, q2⟩ := (VR_iff _ _).1 c4 n.toNat cs he
    have hzz : z' = z := by omega
    subst hzz
    refine ⟨_, run a es.length cap (by omega), a.block, a.off + n.toNat * z', ?_, q2⟩
    rw [ha, Addr.add_lit]
  · obtain ⟨g, b, cap, hk, rfl, c1, c2, _⟩ := hx
    exact ⟨_, run _ m cap hl, g, b, z, hk, by rw [Addr.add_lit, Nat.add_mul]; simp [Nat.add_assoc]⟩

theorem ixa_sound {t e : TypeId} {len : Nat} (ht : P.underlying t = some (.array len e)) {z : Nat} (hz : size P e = some z) {x : AV} {u : Value} (hx : V κ w x u) {k : IntKind} {n : Int} (h0 : 0 ≤ n) (h1 : n < len) {r : AV}
    (hr : (∃ i v e' f, x = .ref i v e' f ∧ r = .ref i v e' (f + n.toNat * z)) ∨ (∃ cs, x = .fptr cs ∧ n.toNat * z ≤ cs.length ∧ r = .fptr (cs.drop (n.toNat * z)))) :
    ∃ v, (Instr.indexAt t u (.int k n)).run P w = .ok v w ∧ V κ w r v := by
  have run : ∀ (a : Addr), (Instr.indexAt t (.pointer (some a)) (.int k n)).run P w = .ok (.pointer (some (a.add (n.toNat * z)))) w := fun a => by
    simp [Instr.indexAt, asIntOf, run_underlying ht, Instr.sureAddr, h0, h1, run_sizeOf hz]
  rcases hr with ⟨i, v, e', f, rfl, rfl⟩ | ⟨cs, rfl, hl, rfl⟩
  · obtain ⟨g, b, z', hk, rfl⟩ := hx
    exact ⟨_, run _, g, b, z', hk, by rw [Addr.add_lit, Nat.add_assoc]⟩
  · obtain ⟨g, o, rfl, hc⟩ := hx
    exact ⟨_, run _, g, o + n.toNat * z, by rw [Addr.add_lit], VC_drop hc _⟩

theorem ixv_sound {t e : TypeId} {len : Nat} (ht : P.underlying t = some (.array len e)) {z : Nat} (hz : size P e = some z) {ag : Bool} (ha : isAg P e = some ag) {cs : List AV} {u : Value} (hx : V κ w (.agg cs) u) {k : IntKind} {n : Int} (h0 : 0 ≤ n) (h1 : n < len) {r : AV}
    (hr : partOf ag (n.toNat * z) z cs = some r) : ∃ v, (Instr.index t u (.int k n)).run P w = .ok v w ∧ V κ w r v := by
  obtain ⟨o1, vs, rfl, h2⟩ := hx
  obtain ⟨v, h3, h4⟩ := run_part ha hz o1 h2 hr
  exact ⟨v, by simp [Instr.index, asIntOf, run_underlying ht, h0, h1, run_sizeOf hz, h3], h4⟩

theorem ixstr_sound {t : TypeId} (ht : P.underlying t = some .string) {s : List UInt8} {u : Value} (hx : V κ w (.str s) u) {k : IntKind} {n : Int} (h0 : 0 ≤ n) {b : UInt8} (hb : s[n.toNat]? = some b) :
    (Instr.index t u (.int k n)).run P w = .ok (.int .u8 b.toNat) w := by
  obtain ⟨s', rfl, rfl⟩ := hx
  have hlt : n.toNat < s'.size := by have := (List.getElem?_eq_some_iff.1 hb).1; simpa using this
  have : s'[n.toNat]? = some b := by
    rw [getElem?_pos s' n.toNat hlt]
    rw [← hb, Array.getElem?_toList, getElem?_pos s'.data n.toNat hlt]
    rfl
  simp [Instr.index, asIntOf, run_underlying ht, h0, this]

theorem field_sound {t : TypeId} {fs : Array Field} (ht : P.underlying t = some (.struct fs)) {i : Nat} {f : Field} (hf : fs[i]? = some f) {n : Nat} (hn : size P f.type = some n) {ag : Bool} (ha : isAg P f.type = some ag) {cs : List AV} {u : Value} (hx : V κ w (.agg cs) u) {r : AV}
    (hr : partOf ag f.offset n cs = some r) : ∃ v, (Instr.field t u i).run P w = .ok v w ∧ V κ w r v := by
  obtain ⟨o1, vs, rfl, h2⟩ := hx
  obtain ⟨v, h3, h4⟩ := run_part ha hn o1 h2 hr
  exact ⟨v, by simp [Instr.field, run_underlying ht, hf, asAgg, h3], h4⟩

theorem extract_sound {vs : List AV} {u : Value} (hx : V κ w (.tup vs) u) {i : Nat} {r : AV} (hr : vs[i]? = some r) : ∃ v, (Instr.extract u i).run P w = .ok v w ∧ V κ w r v := by
  obtain ⟨l, rfl, h⟩ := hx
  obtain ⟨v, h1, h2⟩ := h.get hr
  have : l[i]? = some v := by simpa using h1
  exact ⟨v, by simp [Instr.extract, this], h2⟩

end Go.AM
end
