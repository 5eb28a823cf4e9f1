import Derived.Test.YtlnnhldhhaooiaaA15

set_option linter.unusedVariables false
set_option linter.unusedSimpArgs false
set_option linter.unusedSectionVars false
set_option linter.unnecessarySimpa false

section
/- Maps are updated. -/
namespace Go.AM
open Go

variable {Γ : Env} {wp : Nat} {κ κ' : K} {H : Heap} {w w' : World} {P : Program}

theorem sameBits_one {k a : AV} {key old : Value} (hv : V κ w k key) (hv' : V κ w a old) (he : eq1 k a = some true) (n : Nat) : Instr.sameBits n old key = true := by
  cases k <;> cases a <;> simp only [eq1, reduceCtorEq, Option.some.injEq, decide_eq_true_eq] at he
  case bool.bool x y => cases hv; cases hv'; subst he; cases n <;> simp [Instr.sameBits]
  case int.int k1 x k2 y =>
    split at he
    · rename_i hk
      cases hv; cases hv'
      simp at he
      subst he; subst hk
      cases n <;> simp [Instr.sameBits]
    · cases he
  case str.str x y =>
    obtain ⟨u, rfl, rfl⟩ := hv
    obtain ⟨u', rfl, rfl⟩ := hv'
    have : u' = u := by cases u; cases u'; simp at he; simp [he]
    subst this
    cases n <;> simp [Instr.sameBits, (bytes_beq' u' u').2 rfl]

theorem sameBits_all : ∀ {cs ds : List AV} {vs us : List Value}, VL κ w cs vs → VL κ w ds us → eqs cs ds = some true → ∀ n, us.length = vs.length ∧ (us.zip vs).all (fun (x, y) => Instr.sameBits n x y) = true
  | [], [], vs, us, h1, h2, _, n => by cases h1; cases h2; simp
  | [], _ :: _, _, _, _, _, h, _ => by simp [eqs] at h
  | _ :: _, [], _, _, _, _, h, _ => by simp [eqs] at h
  | c :: cs, d :: ds, vs, us, h1, h2, h, n => by
    obtain ⟨v, vs, rfl, h3, h4⟩ := h1
    obtain ⟨u, us, rfl, h5, h6⟩ := h2
    simp only [eqs, Option.bind_eq_bind, Option.bind_eq_some_iff] at h
    obtain ⟨p, hp, q, hq, h⟩ := h
    simp at h
    obtain ⟨rfl, rfl⟩ := h
    obtain ⟨i1, i2⟩ := sameBits_all h4 h6 hq n
    exact ⟨by simp [i1], by rw [List.zip_cons_cons, List.all_cons, i2, Bool.and_true]; exact sameBits_one h3 h5 hp n⟩

theorem sameBits_key {k a : AV} {key old : Value} (hv : V κ w k key) (hv' : V κ w a old) (he : eqk k a = some true) : Instr.sameBits 10000 old key = true := by
  cases k <;> cases a <;> first
    | (exact sameBits_one hv hv' (by simpa only [eqk] using he) _)
    | (simp only [eqk, eq1] at he; cases he; done)
    | skip
  obtain ⟨_, vs, rfl, h1⟩ := hv
  obtain ⟨_, us, rfl, h2⟩ := hv'
  simp only [eqk] at he
  obtain ⟨i1, i2⟩ := sameBits_all h1 h2 he 9999
  show (us.size == vs.size && (us.toList.zip vs.toList).all fun (x, y) => Instr.sameBits 9999 x y) = true
  rw [i2]
  simpa using i1

theorem Put.setObj {g : Nat} {o o' : Obj} (hg : w.heap[g]? = some o) : Put w { w with heap := w.heap.setIfInBounds g o' } g o' where
  lt := (Array.getElem?_eq_some_iff.1 hg).1
  here := by have := (Array.getElem?_eq_some_iff.1 hg).1; simp [this]
  other k h := by simp [Ne.symm h]
  size := by simp
  os := rfl
  tape := rfl
  output := rfl
  drawn := Nat.le_refl _

/-- A map's box is turned. -/
theorem HInv.mapSet (hi : HInv Γ κ H w) {i : Nat} {ks : List Nat} {es es' : List (AV × AV)} (hm : H[i]? = some (.map ks es)) {g b z : Nat} (hk : κ.box i 0 = some (g, b, z)) {ents ents' : Array MapEntry} {clock clock' : Nat} (hg : w.heap[g]? = some (.map ents clock))
    (hvm : VM κ w ks es' ents'.toList) (hborn : Born ents' clock') (hwp : wp ≤ i) : let w' := { w with heap := w.heap.setIfInBounds g (.map ents' clock') }; Le κ w κ w' ∧ Fr wp κ H w κ (H.set i (.map ks es')) w' ∧ HInv Γ κ (H.set i (.map ks es')) w' := by
  intro w'
  obtain ⟨_, hnf⟩ := hi.map hm hk
  have hsh : ∀ s, w.shape? g = some s → w'.shape? g = some s := fun s h => by simp [World.shape?, hg] at h
  refine hi.put hm rfl hk (Put.setObj hg) hsh hnf (fun _ => rfl) hwp fun hle => ?_
  intro g' b' z' hk'
  rw [hk] at hk'
  injection hk' with hk'
  injection hk' with e1 e2
  subst e1
  refine ⟨⟨ents', clock', (Put.setObj hg).here, by simpa using hvm.1, fun j k v hj => ?_, hborn⟩, hnf⟩
  obtain ⟨a1, a2, x, a3, a4, a5⟩ := hvm.2 j k v hj
  exact ⟨a1, a2, x, by simpa using a3, V.le hle _ _ a4, V.le hle _ _ a5⟩

theorem mapupd_sound (hi : HInv Γ κ H w) {t kt e : TypeId} (ht : P.underlying t = some (.map kt e)) {ks : List Nat} (hks : keyKs P kt = some ks) {i : Nat} {k v : AV} {m key x : Value} (hm : V κ w (.map i) m) (hk : V κ w k key) (hkk : k.kds = ks) (hx : V κ w v x) (hh : v.held = true)
    {es es' : List (AV × AV)} (hes : H[i]? = some (.map ks es)) (hu : upd k v es = some es') (hwp : wp ≤ i) :
    ∃ w', (Instr.mapUpdate t m key x).run P w = .ok () w' ∧ Le κ w κ w' ∧ Fr wp κ H w κ (H.set i (.map ks es')) w' ∧ HInv Γ κ (H.set i (.map ks es')) w' := by
  obtain ⟨g, b, z, hkb, rfl⟩ := hm
  obtain ⟨⟨ents, clock, h1, hvm, hborn⟩, _⟩ := hi.map hes hkb
  rw [upd_eq k v es 0] at hu
  cases hfi : findI k es 0 with
  | none => rw [hfi] at hu; cases hu
  | some ri =>
    rw [hfi] at hu
    simp at hu
    obtain ⟨o, o1, o2, o3⟩ := findKey_sound (P := P) hks hk hkk hvm hfi
    have hck := checkKey_top (P := P) (em := false) hks hk hkk
    cases ri with
    | none =>
      have : o = none := o2
      subst this
      subst hu
      have kk := hi.mapSet hes hkb h1 (es' := es ++ [(k, v)]) (ents' := ents.push { key, val := x, born := clock }) (clock' := clock + 1) ⟨by simp [hvm.1], fun j k' v' hj => by
        rw [List.getElem?_append] at hj
        have hl := hvm.1
        simp at hl
        split at hj
        · rename_i hlt
          obtain ⟨a1, a2, y, a3, a4⟩ := hvm.2 j k' v' hj
          exact ⟨a1, a2, y, by simp at a3; rw [Array.toList_push, List.getElem?_append_left (by simp; omega)]; simpa using a3, a4⟩
        · have hj0 : j - es.length = 0 := by
            have := (List.getElem?_eq_some_iff.1 hj).1
            simp at this
            omega
          rw [hj0] at hj
          simp at hj
          obtain ⟨rfl, rfl⟩ := hj
          refine ⟨hkk, hh, { key, val := x, born := clock }, ?_, hk, hx⟩
          have : j = ents.toList.length := by simp; omega
          rw [Array.toList_push, this, List.getElem?_append_right (Nat.le_refl _)]
          simp⟩ ⟨by simp [hborn.1], fun j x hx => by
            rw [Array.getElem?_push] at hx
            split at hx
            · injection hx with hx; subst hx; rename_i hj; rw [hj]; exact hborn.1
            · exact hborn.2 j x hx⟩ hwp
      exact ⟨_, by simp [Instr.mapUpdate, run_underlying ht, run_getMap h1, hck, o1, run_setMap _ h1], kk⟩
    | some p =>
      obtain ⟨j, b'⟩ := p
      simp at hu
      subst hu
      obtain ⟨y, _, q2, rfl, q4⟩ := o2
      simp only [Nat.sub_zero, Array.getElem?_toList] at q2
      obtain ⟨a, a1, a2, a3⟩ := o3 j b' y rfl (by simpa using q2)
      have hsb := sameBits_key hk a1 a3
      have hjl : j < es.length := by
        have := (Array.getElem?_eq_some_iff.1 q2).1
        have hl := hvm.1
        simp at hl
        omega
      have kk := hi.mapSet hes hkb h1 (es' := es.set j (k, v)) (ents' := ents.modify j fun e => { e with key, val := x }) (clock' := clock) ⟨by simp [hvm.1], fun j' k' v' hj => by
        rcases set_get hj with ⟨rfl, e⟩ | ⟨hne, hj⟩
        · injection e with e1 e2
          subst e1; subst e2
          exact ⟨hkk, hh, { y with key, val := x }, by rw [Array.getElem?_toList, Array.getElem?_modify]; simp [q2], hk, hx⟩
        · obtain ⟨c1, c2, y', c3, c4⟩ := hvm.2 j' k' v' hj
          exact ⟨c1, c2, y', by rw [Array.getElem?_toList, Array.getElem?_modify, if_neg hne]; simpa using c3, c4⟩⟩ ⟨by simp [hborn.1], fun j' x' hx => by
            rw [Array.getElem?_modify] at hx
            split at hx
            · obtain ⟨y', hy, rfl⟩ := Option.map_eq_some_iff.1 hx
              exact hborn.2 j' y' hy
            · exact hborn.2 j' x' hx⟩ hwp
      refine ⟨_, ?_, kk⟩
      have hst : (Instr.keyThatStays y.key key).run P w = .ok key w := by simp [Instr.keyThatStays, hsb]
      simp [Instr.mapUpdate, run_underlying ht, run_getMap h1, hck, o1, q2, hst, run_setMap _ h1]

/-- A map's length. -/
theorem maplen_sound (hi : HInv Γ κ H w) {t ty kt e : TypeId} (ht : P.underlying t = some (.map kt e)) {i : Nat} {m : Value} (hm : V κ w (.map i) m) {ks : List Nat} {es : List (AV × AV)} (hes : H[i]? = some (.map ks es)) :
    (Builtin.len_ #[t] ty #[m]).run P w = .ok (.int .i64 es.length) w := by
  obtain ⟨g, b, z, hkb, rfl⟩ := hm
  obtain ⟨⟨ents, clock, h1, hvm, _⟩, _⟩ := hi.map hes hkb
  have hl := hvm.1
  simp at hl
  simp [Builtin.len_, run_underlying ht, run_getMap h1, goInt, hl]

end Go.AM
end
