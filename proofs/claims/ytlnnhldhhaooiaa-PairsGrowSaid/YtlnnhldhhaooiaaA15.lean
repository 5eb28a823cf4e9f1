import Derived.Test.YtlnnhldhhaooiaaA14
import Derived.MapKept

set_option linter.unusedVariables false
set_option linter.unusedSimpArgs false
set_option linter.unusedSectionVars false
set_option linter.unnecessarySimpa false

section
/- Maps: finding, updating. -/
namespace Go.AM
open Go

variable {Γ : Env} {wp : Nat} {κ κ' : K} {H : Heap} {w w' : World} {P : Program}

def findI (k : AV) : List (AV × AV) → Nat → Option (Option (Nat × AV))
  | [], _ => some none
  | (a, b) :: rest, i =>
    match eqk k a with
    | some true => some (some (i, b))
    | some false => findI k rest (i + 1)
    | none => none

theorem find_eq (k : AV) : ∀ (es : List (AV × AV)) (i : Nat), find k es = (findI k es i).map (·.map Prod.snd)
  | [], i => rfl
  | (a, b) :: rest, i => by
    simp only [find, findI]
    cases h : eqk k a with
    | none => rfl
    | some t => cases t <;> simp [find_eq k rest (i + 1)]

theorem upd_eq (k v : AV) : ∀ (es : List (AV × AV)) (i : Nat), upd k v es = (findI k es i).map fun r => match r with
    | some (j, _) => es.set (j - i) (k, v)
    | none => es ++ [(k, v)]
  | [], i => rfl
  | (a, b) :: rest, i => by
    simp only [upd, findI]
    cases h : eqk k a with
    | none => rfl
    | some t =>
      cases t
      · simp only [upd_eq k v rest (i + 1), Option.map_map]
        have hge : ∀ (es : List (AV × AV)) (i j : Nat) (b : AV), findI k es i = some (some (j, b)) → i ≤ j := by
          intro es
          induction es with
          | nil => intro i j b h; simp [findI] at h
          | cons p es ih =>
            obtain ⟨a', b'⟩ := p
            intro i j b h
            simp only [findI] at h
            split at h
            · injection h with h; injection h with h; injection h with h _; omega
            · have := ih _ _ _ h; omega
            · cases h
        cases hf : findI k rest (i + 1) with
        | none => rfl
        | some r =>
          cases r with
          | none => rfl
          | some p =>
            obtain ⟨j, b'⟩ := p
            have := hge _ _ _ _ hf
            simp only [Option.map_some, Function.comp]
            rw [show j - i = (j - (i + 1)) + 1 from by omega]
            rfl
      · simp

/-- Entries stand for pairs. -/
def VM (κ : K) (w : World) (ks : List Nat) (es : List (AV × AV)) (ents : List MapEntry) : Prop :=
  es.length = ents.length ∧ ∀ (j : Nat) (k v : AV), es[j]? = some (k, v) → k.kds = ks ∧ v.held = true ∧ ∃ x : MapEntry, ents[j]? = some x ∧ V κ w k x.key ∧ V κ w v x.val

theorem VM.cons {ks : List Nat} {a b : AV} {es : List (AV × AV)} {e : MapEntry} {ents : List MapEntry} : VM κ w ks ((a, b) :: es) (e :: ents) ↔ (a.kds = ks ∧ b.held = true ∧ V κ w a e.key ∧ V κ w b e.val) ∧ VM κ w ks es ents := by
  constructor
  · rintro ⟨h1, h2⟩
    obtain ⟨a1, a2, x, a3, a4, a5⟩ := h2 0 a b rfl
    simp at a3
    subst a3
    exact ⟨⟨a1, a2, a4, a5⟩, by simpa using h1, fun j k v hj => by
      obtain ⟨b1, b2, y, b3, b4, b5⟩ := h2 (j + 1) k v (by simpa using hj)
      exact ⟨b1, b2, y, by simpa using b3, b4, b5⟩⟩
  · rintro ⟨⟨a1, a2, a4, a5⟩, h1, h2⟩
    refine ⟨by simp [h1], fun j k v hj => ?_⟩
    cases j with
    | zero => simp at hj; obtain ⟨rfl, rfl⟩ := hj; exact ⟨a1, a2, e, rfl, a4, a5⟩
    | succ j =>
      obtain ⟨b1, b2, y, b3, b4, b5⟩ := h2 j k v (by simpa using hj)
      exact ⟨b1, b2, y, by simpa using b3, b4, b5⟩

/-- Two keys are compared. -/
theorem key_equal {t : TypeId} {ks : List Nat} (h : keyKs P t = some ks) {k a : AV} {key key' : Value} (hv : V κ w k key) (hk : k.kds = ks) (hv' : V κ w a key') (hk' : a.kds = ks) {r : Bool} (he : eqk k a = some r) :
    (Op.equal t key key').run P w = .ok r w := by
  obtain ⟨cs, m, c1, c2, c3, c4, c5, c6⟩ := key_part h hv hk
  obtain ⟨cs', m', d1, d2, d3, d4, d5, d6⟩ := key_part h hv' hk'
  rw [c2] at d2
  injection d2 with d2
  subst d2
  have hl : cs.length = m.length := by rw [← c5]; simp
  have hl' : cs'.length = m.length := by rw [← d5]; simp
  have hes : eqs cs cs' = some r := by
    cases k <;> simp only [AV.cells, Option.some.injEq, reduceCtorEq] at c1 <;> subst c1 <;> cases a <;> simp only [AV.cells, Option.some.injEq, reduceCtorEq] at d1 <;> subst d1 <;> first
      | (simp only [eqk] at he; exact he)
      | (simp only [eqk] at he; simp [eqs, he])
      | (simp only [eqk, eq1] at he; cases he)
  obtain ⟨x, y, p1, p2, p3⟩ := eqAt_kinds (P := P) (κ := κ) (w := w) 8 t m c2 9992 cs cs' key.cells key'.cells 0 r c3 d3 c4 d4
    (by rw [List.drop_zero, ← hl, List.take_length]; exact c5) (by rw [List.drop_zero, ← hl', List.take_length]; exact d5)
    (by rw [List.drop_zero, List.drop_zero, ← hl, List.take_length, hl, ← hl', List.take_length]; exact hes)
  rw [c6] at p1
  rw [d6] at p2
  injection p1 with p1
  injection p2 with p2
  subst p1; subst p2
  simp only [Op.equal, Op.maxDepth]
  exact p3

theorem bytes_beq' (a b : ByteArray) : (a == b) = true ↔ a = b := by
  obtain ⟨x⟩ := a
  obtain ⟨y⟩ := b
  constructor
  · intro h
    have e : x = y := by simpa using (show (x == y) = true from h)
    rw [e]
  · intro h
    cases h
    show (x == x) = true
    simp

theorem sameNow_sound {d : TypeDesc} {k a : AV} {key key' : Value} (hv : V κ w k key) (hv' : V κ w a key') {r s : Bool} (he : eqk k a = some r) (hs : Instr.sameNow d key key' = some s) : s = r := by
  cases k <;> cases a <;> simp only [eqk, eq1, reduceCtorEq] at he
  case bool.bool x y =>
    cases hv; cases hv'
    injection he with he
    cases d <;> simp [Instr.sameNow] at hs
    rw [← hs, ← he, beqd]
  case int.int k1 x k2 y =>
    cases hv; cases hv'
    split at he
    · rename_i hkk
      injection he with he
      cases d <;> simp [Instr.sameNow] at hs
      rw [← hs.2, ← he, beqd]
    · cases he
  case str.str x y =>
    obtain ⟨u, rfl, rfl⟩ := hv
    obtain ⟨u', rfl, rfl⟩ := hv'
    injection he with he
    cases d <;> simp only [Instr.sameNow, Option.some.injEq, reduceCtorEq] at hs
    rw [← hs, ← he]
    by_cases hu : u = u'
    · subst hu; simp [(bytes_beq' u u).2 rfl]
    · have : ¬ u.data.toList = u'.data.toList := fun e => hu (by cases u; cases u'; simp at e; simp [e])
      rw [decide_eq_false this]
      cases hb : (u == u') with
      | false => rfl
      | true =>
        exact absurd ((bytes_beq' u u').1 hb) hu
  case agg.agg x y =>
    obtain ⟨_, vs, rfl, _⟩ := hv
    cases d <;> simp [Instr.sameNow] at hs

/-- What is found, at once or by asking. -/
def Fnd (κ : K) (w : World) (ents : List MapEntry) (i : Nat) (r : Option (Nat × AV)) (o : Option (Nat × Value)) : Prop :=
  match r with
  | none => o = none
  | some (j, b) => ∃ x : MapEntry, i ≤ j ∧ ents[j - i]? = some x ∧ o = some (j, x.val) ∧ V κ w b x.val

theorem find_sound {t : TypeId} {ks : List Nat} (h : keyKs P t = some ks) {k : AV} {key : Value} (hv : V κ w k key) (hk : k.kds = ks) :
    ∀ (es : List (AV × AV)) (ents : List MapEntry) (i : Nat), VM κ w ks es ents → ∀ r, findI k es i = some r →
      (∃ o, (Instr.findAsking t key ents i).run P w = .ok o w ∧ Fnd κ w ents i r o ∧ ∀ (j : Nat) (b : AV) (x : MapEntry), r = some (j, b) → ents[j - i]? = some x → ∃ a, V κ w a x.key ∧ a.kds = ks ∧ eqk k a = some true) ∧
      (∀ d o, Instr.findNow d key ents i = some o → Fnd κ w ents i r o)
  | [], ents, i, hm, r, hf => by
    simp [findI] at hf
    subst hf
    have : ents = [] := List.eq_nil_of_length_eq_zero hm.1.symm
    subst this
    exact ⟨⟨none, by simp [Instr.findAsking], rfl, fun j b x hr => by cases hr⟩, fun d o ho => by simp [Instr.findNow] at ho; subst ho; rfl⟩
  | (a, b) :: es, ents, i, hm, r, hf => by
    cases ents with
    | nil => simp [VM] at hm
    | cons e ents =>
      obtain ⟨⟨m1, m2, m3, m4⟩, hm'⟩ := VM.cons.1 hm
      simp only [findI] at hf
      cases he : eqk k a with
      | none => rw [he] at hf; cases hf
      | some t' =>
        rw [he] at hf
        have heq := key_equal h hv hk m3 m1 he
        cases t' with
        | true =>
          simp only [] at hf
          injection hf with hf
          subst hf
          refine ⟨⟨some (i, e.val), by simp [Instr.findAsking, heq], ⟨e, Nat.le_refl _, by simp, rfl, m4⟩, fun j b' x hr hx => ?_⟩, fun d o ho => ?_⟩
          · injection hr with hr
            injection hr with hr _
            subst hr
            simp at hx
            subst hx
            exact ⟨a, m3, m1, he⟩
          · simp only [Instr.findNow] at ho
            split at ho
            · injection ho with ho; subst ho; exact ⟨e, Nat.le_refl _, by simp, rfl, m4⟩
            · rename_i hs; exact absurd (sameNow_sound hv m3 he hs) (by simp)
            · cases ho
        | false =>
          simp only [] at hf
          obtain ⟨⟨o, o1, o2, o3⟩, o4⟩ := find_sound h hv hk es ents (i + 1) hm' r hf
          have lift : ∀ o, Fnd κ w ents (i + 1) r o → Fnd κ w (e :: ents) i r o := by
            intro o ho
            cases r with
            | none => exact ho
            | some p =>
              obtain ⟨j, b'⟩ := p
              obtain ⟨x, q1, q2, q3, q4⟩ := ho
              refine ⟨x, by omega, ?_, q3, q4⟩
              rw [show j - i = (j - (i + 1)) + 1 from by omega]
              simpa using q2
          refine ⟨⟨o, by simp [Instr.findAsking, heq, o1], lift o o2, fun j b' x hr hx => ?_⟩, fun d o' ho => ?_⟩
          · subst hr
            obtain ⟨y, q1, q2, q3, q4⟩ := o2
            rw [show j - i = (j - (i + 1)) + 1 from by omega] at hx
            exact o3 j b' x rfl (by simpa using hx)
          · simp only [Instr.findNow] at ho
            split at ho
            · rename_i hs; exact absurd (sameNow_sound hv m3 he hs) (by simp)
            · exact lift _ (o4 d o' ho)
            · cases ho

theorem findKey_sound {t : TypeId} {ks : List Nat} (h : keyKs P t = some ks) {k : AV} {key : Value} (hv : V κ w k key) (hk : k.kds = ks) {es : List (AV × AV)} {ents : List MapEntry} (hm : VM κ w ks es ents) {r : Option (Nat × AV)} (hf : findI k es 0 = some r) :
    ∃ o, (Instr.findKey t key ents).run P w = .ok o w ∧ Fnd κ w ents 0 r o ∧ ∀ (j : Nat) (b : AV) (x : MapEntry), r = some (j, b) → ents[j]? = some x → ∃ a, V κ w a x.key ∧ a.kds = ks ∧ eqk k a = some true := by
  obtain ⟨⟨o, o1, o2, o3⟩, o4⟩ := find_sound (P := P) h hv hk es ents 0 hm r hf
  obtain ⟨_, m, _, hkm, _⟩ := key_part (P := P) h hv hk
  obtain ⟨ds, hu, _⟩ := kinds_some hkm
  cases hn : Instr.findNow ds key ents 0 with
  | none => exact ⟨o, by simp [Instr.findKey, run_underlying hu, hn, o1], o2, by simpa using o3⟩
  | some o' => exact ⟨o', by simp [Instr.findKey, run_underlying hu, hn], o4 ds o' hn, by simpa using o3⟩

theorem run_getMap {r : Nat} {es : Array MapEntry} {clock : Nat} (hb : w.heap[r]? = some (.map es clock)) : (getObj r).run P w = .ok (.map es clock) w := by
  simp [getObj, Sem.run, hb]
theorem run_setMap {r : Nat} {es : Array MapEntry} {clock : Nat} (o : Obj) (hb : w.heap[r]? = some (.map es clock)) : (setObj r o).run P w = .ok () { w with heap := w.heap.setIfInBounds r o } := by
  simp [setObj, Sem.run, hb]

/-- The box of a map. -/
theorem HInv.map (hi : HInv Γ κ H w) {i : Nat} {ks : List Nat} {es : List (AV × AV)} (hm : H[i]? = some (.map ks es)) {g b z : Nat} (hk : κ.box i 0 = some (g, b, z)) :
    (∃ (ents : Array MapEntry) (clock : Nat), w.heap[g]? = some (.map ents clock) ∧ VM κ w ks es ents.toList ∧ Born ents clock) ∧ ∀ o, ¬ κ.frz g o := by
  obtain ⟨⟨ents, clock, h1, h2, h3, h5⟩, h4⟩ := hi.box i _ hm g b z hk
  exact ⟨⟨ents, clock, h1, ⟨by simpa using h2, fun j k v hj => by
    obtain ⟨a1, a2, x, a3, a4⟩ := h3 j k v hj
    exact ⟨a1, a2, x, by simpa using a3, a4⟩⟩, h5⟩, h4⟩

theorem zeroAV_run {t : TypeId} {za : AV} (h : zeroAV P t = some za) : ∃ zv, (∀ w : World, (zeroValue t).run P w = .ok zv w) ∧ ∀ (κ : K) (w : World), V κ w za zv := by
  unfold zeroAV at h
  cases hi : P.info? t with
  | none => rw [hi] at h; cases h
  | some i =>
    cases hz : i.zero with
    | none => simp [hi, hz] at h
    | some zv =>
      simp [hi, hz] at h
      exact ⟨zv, fun w => by simp [zeroValue, typeInfo, hi, hz], fun κ w => cv_sound h⟩

theorem checkKey_top {em : Bool} {t : TypeId} {ks : List Nat} (h : keyKs P t = some ks) {k : AV} {key : Value} (hv : V κ w k key) (hk : k.kds = ks) : (Instr.checkKey em 10000 t key).run P w = .ok () w := by
  obtain ⟨cs, m, c1, c2, c3, c4, c5, c6⟩ := key_part h hv hk
  have hl : cs.length = m.length := by rw [← c5]; simp
  obtain ⟨x, p1, p2⟩ := checkKey_kinds (P := P) (em := em) 8 t m c2 9992 cs key.cells 0 c3 c4 (by rw [List.drop_zero, ← hl, List.take_length]; exact c5)
  rw [c6] at p1
  injection p1 with p1
  subst p1
  exact p2

theorem lookup_sound (hi : HInv Γ κ H w) {t kt e : TypeId} (ht : P.underlying t = some (.map kt e)) {ks : List Nat} (hks : keyKs P kt = some ks) {za : AV} (hz : zeroAV P e = some za) {mv k : AV} {m key : Value} (hm : V κ w mv m) (hk : V κ w k key) (hkk : k.kds = ks)
    {ok : Bool} {es : List (AV × AV)} (hes : mv = .nilm ∧ es = [] ∨ ∃ i, mv = .map i ∧ H[i]? = some (.map ks es)) {r : Option AV} (hf : find k es = some r) :
    ∃ u, (Instr.lookup t m key ok).run P w = .ok u w ∧ V κ w (if ok then .tup [r.getD za, .bool r.isSome] else r.getD za) u := by
  obtain ⟨zv, z1, z2⟩ := zeroAV_run hz
  rw [find_eq k es 0] at hf
  cases hfi : findI k es 0 with
  | none => rw [hfi] at hf; cases hf
  | some ri =>
    rw [hfi] at hf
    simp at hf
    have hobj : ∃ ents : Array MapEntry, VM κ w ks es ents.toList ∧ ((m = .map none ∧ ents = #[]) ∨ ∃ g clock, m = .map (some g) ∧ w.heap[g]? = some (.map ents clock)) := by
      rcases hes with ⟨rfl, rfl⟩ | ⟨i, rfl, hH⟩
      · cases hm
        exact ⟨#[], ⟨rfl, fun j k v hj => by simp at hj⟩, .inl ⟨rfl, rfl⟩⟩
      · obtain ⟨g, b, z, hkb, rfl⟩ := hm
        obtain ⟨⟨ents, clock, h1, h2, _⟩, _⟩ := hi.map hH hkb
        exact ⟨ents, h2, .inr ⟨g, clock, rfl, h1⟩⟩
    obtain ⟨ents, hvm, hrun⟩ := hobj
    obtain ⟨o, o1, o2, _⟩ := findKey_sound (P := P) hks hk hkk hvm hfi
    have hck := checkKey_top (P := P) (em := ents.isEmpty) hks hk hkk
    cases ri with
    | none =>
      simp at hf
      subst hf
      have : o = none := o2
      subst this
      refine ⟨if ok then .tuple #[zv, .bool false] else zv, ?_, ?_⟩
      · rcases hrun with ⟨rfl, rfl⟩ | ⟨g, clock, rfl, h1⟩
        · simp at hck o1
          simp [Instr.lookup, run_underlying ht, hck, o1, z1]
        · simp [Instr.lookup, run_underlying ht, run_getMap h1, hck, o1, z1]
      · cases ok
        · exact z2 κ w
        · exact ⟨_, rfl, _, _, rfl, z2 κ w, _, _, rfl, rfl, rfl⟩
    | some p =>
      obtain ⟨j, b⟩ := p
      simp at hf
      subst hf
      obtain ⟨x, _, q2, rfl, q4⟩ := o2
      refine ⟨if ok then .tuple #[x.val, .bool true] else x.val, ?_, ?_⟩
      · rcases hrun with ⟨rfl, rfl⟩ | ⟨g, clock, rfl, h1⟩
        · simp at q2
        · simp [Instr.lookup, run_underlying ht, run_getMap h1, hck, o1]
      · cases ok
        · exact q4
        · exact ⟨_, rfl, _, _, rfl, q4, _, _, rfl, rfl, rfl⟩

end Go.AM
end
