import Derived.Test.YtlnnhldhhaooiaaAa
import Derived.RangeFuncLeaves
import Derived.OrdersIn
import Derived.Laws.AppendOwn
import Derived.Below

set_option linter.unusedVariables false
set_option linter.unusedSimpArgs false
set_option linter.unusedSectionVars false
set_option linter.unnecessarySimpa false

section
/- How the abstract machine's values and heap stand for the model's. -/
namespace Go.AM
open Go

/-- frz: cells that nobody writes again. box: where an id's version lies: block, place, cells an element. -/
structure K where
  frz : Nat → Nat → Prop
  box : Nat → Nat → Option (Nat × Nat × Nat)

mutual
/-- The value stands for the abstract one. -/
def V (κ : K) (w : World) : AV → Value → Prop
  | .any, _ => True
  | .bool b, v => v = .bool b
  | .int k n, v => v = .int k n
  | .str s, v => ∃ b : ByteArray, v = .string b ∧ b.data.toList = s
  | .nilp, v => v = .pointer none
  | .ref i ver e f, v => ∃ g b z, κ.box i ver = some (g, b, z) ∧ v = .pointer (some ⟨g, b + e * z + f, none⟩)
  | .fptr cs, v => ∃ g o, v = .pointer (some ⟨g, o, none⟩) ∧ VC κ w g cs o
  | .nils, v => v = .slice none 0 0
  | .fs es x, v => ∃ a z cap, v = .slice (some a) es.length cap ∧ es.length ≤ cap ∧ (x = true → cap = es.length) ∧ (es ≠ [] → a.spot = none) ∧ VR κ w a.block z es a.off
  | .row i ver o n c z, v => ∃ g b cap, κ.box i ver = some (g, b, z) ∧ v = .slice (some ⟨g, b + o * z, none⟩) n cap ∧ n ≤ c ∧ c ≤ cap ∧ ∃ T m, w.shape? g = some (T, m) ∧ b + (o + cap) * z ≤ m ∧ (ver % 2 = 1 → cap = c)
  | .nilm, v => v = .map none
  | .map i, v => ∃ g b z, κ.box i 0 = some (g, b, z) ∧ v = .map (some g)
  | .fn f cap, v => ∃ vs : Array Value, v = .func (.func f) #[] vs ∧ VL κ w cap vs.toList
  | .yld i, v => ∃ g b z, κ.box i 0 = some (g, b, z) ∧ v = .func (.yield g) #[] #[]
  | .nilf, v => v = .nilFunc
  | .nili, v => v = .nilIface
  | .iface t a, v => ∃ u, v = .iface t u ∧ V κ w a u
  | .agg cs, v => cs.all AV.one = true ∧ ∃ vs : Array Value, v = .agg vs ∧ VL κ w cs vs.toList
  | .tup cs, v => ∃ vs : Array Value, v = .tuple vs ∧ VL κ w cs vs.toList
def VL (κ : K) (w : World) : List AV → List Value → Prop
  | [], l => l = []
  | a :: as, l => ∃ v vs, l = v :: vs ∧ V κ w a v ∧ VL κ w as vs
/-- Frozen cells of block g from a place on. -/
def VC (κ : K) (w : World) (g : Nat) : List AV → Nat → Prop
  | [], _ => True
  | a :: as, o => a.one = true ∧ κ.frz g o ∧ (∃ v, w.cell? ⟨g, o, none⟩ = some v ∧ V κ w a v) ∧ VC κ w g as (o + 1)
/-- Frozen elements of z cells. -/
def VR (κ : K) (w : World) (g z : Nat) : List (List AV) → Nat → Prop
  | [], _ => True
  | e :: es, o => e.length = z ∧ VC κ w g e o ∧ VR κ w g z es (o + z)
end

/-- What a step may do. -/
structure Le (κ : K) (w : World) (κ' : K) (w' : World) : Prop where
  frz : ∀ g o, κ.frz g o → κ'.frz g o
  box : ∀ i v x, κ.box i v = some x → κ'.box i v = some x
  keep : ∀ g o, κ.frz g o → w'.cell? ⟨g, o, none⟩ = w.cell? ⟨g, o, none⟩
  shape : ∀ g s, w.shape? g = some s → w'.shape? g = some s
  size : w.heap.size ≤ w'.heap.size
  os : w'.os = w.os
  tape : w'.tape = w.tape
  output : w'.output = w.output
  drawn : w.drawn ≤ w'.drawn
  blk : ∀ g, g < w.heap.size → (∀ i v b z, κ.box i v ≠ some (g, b, z)) → w'.heap[g]? = w.heap[g]?
  own : ∀ i v g b z, κ'.box i v = some (g, b, z) → g < w.heap.size → ∃ i' v' b' z', κ.box i' v' = some (g, b', z')

theorem Le.refl (κ : K) (w : World) : Le κ w κ w :=
  ⟨fun _ _ h => h, fun _ _ _ h => h, fun _ _ _ => rfl, fun _ _ h => h, Nat.le_refl _, rfl, rfl, rfl, Nat.le_refl _, fun _ _ _ => rfl, fun i v _ b z h _ => ⟨i, v, b, z, h⟩⟩

theorem Le.trans {κ κ' κ'' : K} {w w' w'' : World} (h : Le κ w κ' w') (k : Le κ' w' κ'' w'') : Le κ w κ'' w'' where
  frz g o hf := k.frz _ _ (h.frz _ _ hf)
  box i v x hb := k.box _ _ _ (h.box _ _ _ hb)
  keep g o hf := (k.keep _ _ (h.frz _ _ hf)).trans (h.keep _ _ hf)
  shape g s hs := k.shape _ _ (h.shape _ _ hs)
  size := Nat.le_trans h.size k.size
  os := k.os.trans h.os
  tape := k.tape.trans h.tape
  output := k.output.trans h.output
  drawn := Nat.le_trans h.drawn k.drawn
  blk g hg hn := by
    refine (k.blk g (Nat.lt_of_lt_of_le hg h.size) ?_).trans (h.blk g hg hn)
    intro i v b z hb
    obtain ⟨i', v', b', z', hb'⟩ := h.own i v g b z hb hg
    exact hn _ _ _ _ hb'
  own i v g b z hb hg := by
    obtain ⟨i', v', b', z', hb'⟩ := k.own i v g b z hb (Nat.lt_of_lt_of_le hg h.size)
    exact h.own _ _ _ _ _ hb' hg

mutual
theorem V.le {κ κ' : K} {w w' : World} (h : Le κ w κ' w') : ∀ (a : AV) (v : Value), V κ w a v → V κ' w' a v
  | .any, _, _ => trivial
  | .bool _, _, hv => hv
  | .int _ _, _, hv => hv
  | .str _, _, hv => hv
  | .nilp, _, hv => hv
  | .ref i ver e f, v, hv => by
    simp only [V] at hv ⊢
    obtain ⟨g, b, z, h1, h2⟩ := hv
    exact ⟨g, b, z, h.box _ _ _ h1, h2⟩
  | .fptr cs, v, hv => by
    simp only [V] at hv ⊢
    obtain ⟨g, o, h1, h2⟩ := hv
    exact ⟨g, o, h1, VC.le h g cs o h2⟩
  | .nils, _, hv => hv
  | .fs es x, v, hv => by
    simp only [V] at hv ⊢
    obtain ⟨a, z, cap, h1, h2, h3, h4, h5⟩ := hv
    exact ⟨a, z, cap, h1, h2, h3, h4, VR.le h a.block z es a.off h5⟩
  | .row i ver o n c z, v, hv => by
    simp only [V] at hv ⊢
    obtain ⟨g, b, cap, h1, h2, h3, h4, T, m, h5, h6⟩ := hv
    exact ⟨g, b, cap, h.box _ _ _ h1, h2, h3, h4, T, m, h.shape _ _ h5, h6⟩
  | .nilm, _, hv => hv
  | .map i, v, hv => by
    simp only [V] at hv ⊢
    obtain ⟨g, b, z, h1, h2⟩ := hv
    exact ⟨g, b, z, h.box _ _ _ h1, h2⟩
  | .fn f cap, v, hv => by
    simp only [V] at hv ⊢
    obtain ⟨vs, h1, h2⟩ := hv
    exact ⟨vs, h1, VL.le h cap _ h2⟩
  | .yld i, v, hv => by
    simp only [V] at hv ⊢
    obtain ⟨g, b, z, h1, h2⟩ := hv
    exact ⟨g, b, z, h.box _ _ _ h1, h2⟩
  | .nilf, _, hv => hv
  | .nili, _, hv => hv
  | .iface t a, v, hv => by
    simp only [V] at hv ⊢
    obtain ⟨u, h1, h2⟩ := hv
    exact ⟨u, h1, V.le h a u h2⟩
  | .agg cs, v, hv => by
    simp only [V] at hv ⊢
    obtain ⟨h0, vs, h1, h2⟩ := hv
    exact ⟨h0, vs, h1, VL.le h cs _ h2⟩
  | .tup cs, v, hv => by
    simp only [V] at hv ⊢
    obtain ⟨vs, h1, h2⟩ := hv
    exact ⟨vs, h1, VL.le h cs _ h2⟩
theorem VL.le {κ κ' : K} {w w' : World} (h : Le κ w κ' w') : ∀ (as : List AV) (l : List Value), VL κ w as l → VL κ' w' as l
  | [], _, hv => hv
  | a :: as, l, hv => by
    simp only [VL] at hv ⊢
    obtain ⟨v, vs, h1, h2, h3⟩ := hv
    exact ⟨v, vs, h1, V.le h a v h2, VL.le h as vs h3⟩
theorem VC.le {κ κ' : K} {w w' : World} (h : Le κ w κ' w') (g : Nat) : ∀ (as : List AV) (o : Nat), VC κ w g as o → VC κ' w' g as o
  | [], _, _ => trivial
  | a :: as, o, hv => by
    simp only [VC] at hv ⊢
    obtain ⟨h0, h1, ⟨v, h2, h3⟩, h4⟩ := hv
    exact ⟨h0, h.frz _ _ h1, ⟨v, (h.keep _ _ h1).trans h2, V.le h a v h3⟩, VC.le h g as (o + 1) h4⟩
theorem VR.le {κ κ' : K} {w w' : World} (h : Le κ w κ' w') (g z : Nat) : ∀ (es : List (List AV)) (o : Nat), VR κ w g z es o → VR κ' w' g z es o
  | [], _, _ => trivial
  | e :: es, o, hv => by
    simp only [VR] at hv ⊢
    obtain ⟨h1, h2, h3⟩ := hv
    exact ⟨h1, VC.le h g e o h2, VR.le h g z es (o + z) h3⟩
end

/-! ### Pointwise forms -/
theorem VL_iff {κ : K} {w : World} : ∀ (as : List AV) (l : List Value), VL κ w as l ↔ as.length = l.length ∧ ∀ (j : Nat) (a : AV), as[j]? = some a → ∃ v : Value, l[j]? = some v ∧ V κ w a v
  | [], l => by
    simp only [VL]
    constructor
    · rintro rfl; simp
    · rintro ⟨h, _⟩; exact List.eq_nil_of_length_eq_zero (by simpa using h.symm)
  | a :: as, l => by
    simp only [VL]
    constructor
    · rintro ⟨v, vs, rfl, h1, h2⟩
      obtain ⟨h3, h4⟩ := (VL_iff as vs).1 h2
      refine ⟨by simp [h3], fun j b hj => ?_⟩
      cases j with
      | zero => simp at hj; subst hj; exact ⟨v, by simp, h1⟩
      | succ j => simp at hj; obtain ⟨u, h5, h6⟩ := h4 j b hj; exact ⟨u, by simpa using h5, h6⟩
    · rintro ⟨h1, h2⟩
      cases l with
      | nil => simp at h1
      | cons v vs =>
        obtain ⟨u, h3, h4⟩ := h2 0 a (by simp)
        simp at h3
        subst h3
        refine ⟨_, _, rfl, h4, (VL_iff as vs).2 ⟨by simpa using h1, fun j b hj => ?_⟩⟩
        obtain ⟨x, h5, h6⟩ := h2 (j + 1) b (by simpa using hj)
        exact ⟨x, by simpa using h5, h6⟩

theorem VC_iff {κ : K} {w : World} {g : Nat} : ∀ (as : List AV) (o : Nat), VC κ w g as o ↔ ∀ (j : Nat) (a : AV), as[j]? = some a → a.one = true ∧ κ.frz g (o + j) ∧ ∃ v, w.cell? ⟨g, o + j, none⟩ = some v ∧ V κ w a v
  | [], o => by simp [VC]
  | a :: as, o => by
    simp only [VC]
    constructor
    · rintro ⟨h0, h1, h2, h3⟩ j b hj
      cases j with
      | zero => simp at hj; subst hj; exact ⟨h0, h1, h2⟩
      | succ j =>
        simp at hj
        have := (VC_iff as (o + 1)).1 h3 j b hj
        rwa [show o + 1 + j = o + (j + 1) from by omega] at this
    · intro h
      obtain ⟨h0, h1, h2⟩ := h 0 a (by simp)
      refine ⟨h0, h1, h2, (VC_iff as (o + 1)).2 fun j b hj => ?_⟩
      have := h (j + 1) b (by simpa using hj)
      rwa [show o + 1 + j = o + (j + 1) from by omega]

theorem VR_iff {κ : K} {w : World} {g z : Nat} : ∀ (es : List (List AV)) (o : Nat), VR κ w g z es o ↔ ∀ (e : Nat) (el : List AV), es[e]? = some el → el.length = z ∧ VC κ w g el (o + e * z)
  | [], o => by simp [VR]
  | e :: es, o => by
    simp only [VR]
    constructor
    · rintro ⟨h0, h1, h2⟩ j b hj
      cases j with
      | zero => simp at hj; subst hj; exact ⟨h0, by simpa using h1⟩
      | succ j =>
        simp at hj
        have := (VR_iff es (o + z)).1 h2 j b hj
        rwa [show o + z + j * z = o + (j + 1) * z from by rw [Nat.add_mul]; omega] at this
    · intro h
      obtain ⟨h0, h1⟩ := h 0 e (by simp)
      refine ⟨h0, by simpa using h1, (VR_iff es (o + z)).2 fun j b hj => ?_⟩
      have := h (j + 1) b (by simpa using hj)
      rwa [show o + z + j * z = o + (j + 1) * z from by rw [Nat.add_mul]; omega]

/-- A value of one cell. -/
theorem V.one {κ : K} {w : World} {a : AV} {v : Value} (h : V κ w a v) (h1 : a.one = true) : v.oneCell' = true := by
  cases a <;> simp only [V, AV.one] at h h1 <;> first | (cases h1; done) | skip
  all_goals first
    | (subst h; rfl)
    | (obtain ⟨_, rfl, _⟩ := h; rfl)
    | (obtain ⟨_, _, _, _, rfl⟩ := h; rfl)
    | (obtain ⟨_, _, rfl, _⟩ := h; rfl)
    | (obtain ⟨_, _, _, rfl, _⟩ := h; rfl)
    | (obtain ⟨_, _, _, _, rfl, _⟩ := h; rfl)

/-! ### Boxes -/
/-- The array holds the elements, of z cells each, from place b on. -/
def VA (κ : K) (w : World) (arr : Array Value) (z b : Nat) (es : List (List AV)) : Prop :=
  b + es.length * z ≤ arr.size ∧ ∀ (e : Nat) (el : List AV), es[e]? = some el → el.length = z ∧ ∀ (f : Nat) (a : AV), el[f]? = some a → a.one = true ∧ ∃ v : Value, arr[b + e * z + f]? = some v ∧ V κ w a v

/-- A frame. -/
def FR (κ : K) (w : World) (fr : List AV) (tmps : Array Value) : Prop :=
  fr.length = tmps.size ∧ ∀ (t : Nat) (a : AV), fr[t]? = some a → ∃ v : Value, tmps[t]? = some v ∧ V κ w a v

structure Env where
  P : Program
  T : Tab
  M : Nat → Bool

/-- The loops over functions that a code holds stand in the table. -/
def LoopsOk (Γ : Env) (f : Nat) : Code → Prop
  | .seq a b => LoopsOk Γ f a ∧ LoopsOk Γ f b
  | .cond _ a b => LoopsOk Γ f a ∧ LoopsOk Γ f b
  | .block _ c => LoopsOk Γ f c
  | .loop c => LoopsOk Γ f c
  | .rangeFunc _ ps asg body => (∃ aa ab, Γ.T.loop (lidOf f ps) = some (ps.toList, aa, ab) ∧ trC Γ.P Γ.M f asg = strip aa ∧ trC Γ.P Γ.M f body = strip ab) ∧ LoopsOk Γ f asg ∧ LoopsOk Γ f body
  | _ => True

def LSt.is (st : LSt) (s : LoopState) (p : Option Code) : Prop :=
  match st with
  | .ready => s = .ready ∧ p = none
  | .busy => s = .busy ∧ p = none
  | .done .ret => s = .done ∧ p = some .ret
  | .done (.exit id) => s = .done ∧ p = some (.exit id)

/-- A map's stamps: none was taken out. -/
def Born (ents : Array MapEntry) (clock : Nat) : Prop := clock = ents.size ∧ ∀ (j : Nat) (x : MapEntry), ents[j]? = some x → x.born = j

def BoxOk (Γ : Env) (κ : K) (w : World) (i : Nat) : Box → Prop
  | .cells ver es => ∀ g b z, κ.box i ver = some (g, b, z) → (∃ (arr : Array Value) (T : TypeId), w.heap[g]? = some (.cells arr T (0, 0)) ∧ VA κ w arr z b es) ∧ ∀ o, ¬ κ.frz g o
  | .map ks es => ∀ g b z, κ.box i 0 = some (g, b, z) → (∃ (ents : Array MapEntry) (clock : Nat), w.heap[g]? = some (.map ents clock) ∧ es.length = ents.size ∧
      (∀ (j : Nat) (k v : AV), es[j]? = some (k, v) → k.kds = ks ∧ v.held = true ∧ ∃ x : MapEntry, ents[j]? = some x ∧ V κ w k x.key ∧ V κ w v x.val) ∧ Born ents clock) ∧ ∀ o, ¬ κ.frz g o
  | .loop lid tmps st => ∀ g b z, κ.box i 0 = some (g, b, z) → (∃ l : Loop, w.heap[g]? = some (.loop l) ∧ st.is l.state l.pending ∧ FR κ w tmps l.tmps ∧
      ∃ f asg body, Γ.T.loop lid = some (l.params.toList, asg, body) ∧ trC Γ.P Γ.M f l.assign = strip asg ∧ trC Γ.P Γ.M f l.body = strip body ∧ LoopsOk Γ f l.assign ∧ LoopsOk Γ f l.body) ∧ ∀ o, ¬ κ.frz g o
  | .iter m since pos last => ∀ g b z, κ.box i 0 = some (g, b, z) → (b = 0 ∧ z = 0 ∧ ∃ (gm b' z' : Nat) (seen : Array Nat), κ.box m 0 = some (gm, b', z') ∧ w.heap[g]? = some (.mapIter (some gm) since seen last) ∧ seen.toList = List.range pos ∧ (0 < pos → 0 < last)) ∧ ∀ o, ¬ κ.frz g o
  | .defer => ∀ g b z, κ.box i 0 = some (g, b, z) → w.heap[g]? = some (.deferred (some [])) ∧ ∀ o, ¬ κ.frz g o
  | .dead => True

def Box.ver : Box → Nat
  | .cells v _ => v
  | _ => 0

def Box.live : Box → Bool
  | .dead => false
  | _ => true

structure HInv (Γ : Env) (κ : K) (H : Heap) (w : World) : Prop where
  dom : ∀ i v x, κ.box i v = some x → i < H.length
  lt : ∀ i v g b z, κ.box i v = some (g, b, z) → g < w.heap.size
  box : ∀ (i : Nat) (b : Box), H[i]? = some b → BoxOk Γ κ w i b
  disj : ∀ (i j : Nat) (bi bj : Box), H[i]? = some bi → H[j]? = some bj → i ≠ j → bi.live = true → bj.live = true → ∀ g b z g' b' z', κ.box i bi.ver = some (g, b, z) → κ.box j bj.ver = some (g', b', z') → g ≠ g'
  vers : ∀ (i v : Nat) (x : Nat × Nat × Nat) (b : Box), κ.box i v = some x → H[i]? = some b → b.live = true → v ≤ b.ver
  frz : ∀ g o, κ.frz g o → ∃ v : Value, w.cell? ⟨g, o, none⟩ = some v

theorem VA.le {κ κ' : K} {w w' : World} (h : Le κ w κ' w') {arr : Array Value} {z b : Nat} {es : List (List AV)} (hv : VA κ w arr z b es) : VA κ' w' arr z b es :=
  ⟨hv.1, fun e el he => ⟨(hv.2 e el he).1, fun f a hf => by
    obtain ⟨h0, v, h1, h2⟩ := (hv.2 e el he).2 f a hf
    exact ⟨h0, v, h1, V.le h _ _ h2⟩⟩⟩

theorem FR.le {κ κ' : K} {w w' : World} (h : Le κ w κ' w') {fr : List AV} {tmps : Array Value} (hv : FR κ w fr tmps) : FR κ' w' fr tmps :=
  ⟨hv.1, fun t a ht => by
    obtain ⟨v, h1, h2⟩ := hv.2 t a ht
    exact ⟨v, h1, V.le h _ _ h2⟩⟩

/-- A box abides, if its block does and no more cells of it are frozen. -/
theorem BoxOk.le {Γ : Env} {κ κ' : K} {w w' : World} (h : Le κ w κ' w') {i : Nat} {bx : Box} (hb : BoxOk Γ κ w i bx)
    (hsame : ∀ g b z, κ'.box i bx.ver = some (g, b, z) → κ.box i bx.ver = some (g, b, z) ∧ w'.heap[g]? = w.heap[g]? ∧ ∀ o, κ'.frz g o → κ.frz g o) : BoxOk Γ κ' w' i bx := by
  cases bx with
  | cells ver es =>
    intro g b z hg
    obtain ⟨h1, h2, h3⟩ := hsame g b z hg
    obtain ⟨⟨arr, T, h4, h5⟩, h6⟩ := hb g b z h1
    exact ⟨⟨arr, T, h2.trans h4, h5.le h⟩, fun o ho => h6 o (h3 o ho)⟩
  | map ks es =>
    intro g b z hg
    obtain ⟨h1, h2, h3⟩ := hsame g b z hg
    obtain ⟨⟨ents, clock, h4, h5, h7, h8⟩, h6⟩ := hb g b z h1
    refine ⟨⟨ents, clock, h2.trans h4, h5, fun j k v hj => ?_, h8⟩, fun o ho => h6 o (h3 o ho)⟩
    obtain ⟨a1, a2, x, a3, a4, a5⟩ := h7 j k v hj
    exact ⟨a1, a2, x, a3, V.le h _ _ a4, V.le h _ _ a5⟩
  | loop lid tmps st =>
    intro g b z hg
    obtain ⟨h1, h2, h3⟩ := hsame g b z hg
    obtain ⟨⟨l, h4, h5, h7, h8⟩, h6⟩ := hb g b z h1
    exact ⟨⟨l, h2.trans h4, h5, h7.le h, h8⟩, fun o ho => h6 o (h3 o ho)⟩
  | iter m since pos last =>
    intro g b z hg
    obtain ⟨h1, h2, h3⟩ := hsame g b z hg
    obtain ⟨⟨h4, h5, gm, b', z', seen, h7, h8, h9⟩, h6⟩ := hb g b z h1
    exact ⟨⟨h4, h5, gm, b', z', seen, h.box _ _ _ h7, h2.trans h8, h9⟩, fun o ho => h6 o (h3 o ho)⟩
  | defer =>
    intro g b z hg
    obtain ⟨h1, h2, h3⟩ := hsame g b z hg
    obtain ⟨h4, h6⟩ := hb g b z h1
    exact ⟨h2.trans h4, fun o ho => h6 o (h3 o ho)⟩
  | dead => trivial

/-! ### What becomes of the world -/
/-- A new block. -/
structure New (w w' : World) (o : Obj) : Prop where
  new : w'.heap[w.heap.size]? = some o
  old : ∀ k, k < w.heap.size → w'.heap[k]? = w.heap[k]?
  size : w'.heap.size = w.heap.size + 1
  os : w'.os = w.os
  tape : w'.tape = w.tape
  output : w'.output = w.output
  drawn : w.drawn ≤ w'.drawn

/-- A block holds another thing. -/
structure Put (w w' : World) (g : Nat) (o : Obj) : Prop where
  lt : g < w.heap.size
  here : w'.heap[g]? = some o
  other : ∀ k, k ≠ g → w'.heap[k]? = w.heap[k]?
  size : w'.heap.size = w.heap.size
  os : w'.os = w.os
  tape : w'.tape = w.tape
  output : w'.output = w.output
  drawn : w.drawn ≤ w'.drawn

theorem cell_of_heap {w w' : World} {g o : Nat} (h : w'.heap[g]? = w.heap[g]?) : w'.cell? ⟨g, o, none⟩ = w.cell? ⟨g, o, none⟩ := by
  simp [World.cell?, h]
theorem lt_of_cell {w : World} {g o : Nat} {v : Value} (h : w.cell? ⟨g, o, none⟩ = some v) : g < w.heap.size := by
  by_cases hg : g < w.heap.size
  · exact hg
  · simp [World.cell?, Array.getElem?_eq_none (by omega : w.heap.size ≤ g)] at h
theorem shape_of_heap {w w' : World} {g : Nat} (h : w'.heap[g]? = w.heap[g]?) : w'.shape? g = w.shape? g := by
  simp [World.shape?, h]
theorem lt_of_shape {w : World} {g : Nat} {s : TypeId × Nat} (h : w.shape? g = some s) : g < w.heap.size := by
  by_cases hg : g < w.heap.size
  · exact hg
  · simp [World.shape?, Array.getElem?_eq_none (by omega : w.heap.size ≤ g)] at h

/-- A box more, over a new block. -/
def K.add (κ : K) (i ver : Nat) (x : Nat × Nat × Nat) : K :=
  { κ with box := fun j v => if j = i ∧ v = ver then some x else κ.box j v }

/-- A new block: whatever ids are given to it, and whichever of its cells are frozen. -/
theorem Le.new {Γ : Env} {κ κ' : K} {H : Heap} {w w' : World} {o : Obj} (hi : HInv Γ κ H w) (hn : New w w' o)
    (hf : ∀ g p, κ.frz g p → κ'.frz g p) (hb : ∀ i v x, κ.box i v = some x → κ'.box i v = some x)
    (hown : ∀ i v g b z, κ'.box i v = some (g, b, z) → κ.box i v = some (g, b, z) ∨ g = w.heap.size) : Le κ w κ' w' where
  frz := hf
  box := hb
  keep g p h := by
    obtain ⟨v, hv⟩ := hi.frz g p h
    exact cell_of_heap (hn.old g (lt_of_cell hv))
  shape g s h := (shape_of_heap (hn.old g (lt_of_shape h))).trans h
  size := by rw [hn.size]; omega
  os := hn.os
  tape := hn.tape
  output := hn.output
  drawn := hn.drawn
  blk g hg _ := hn.old g hg
  own i v g b z h hg := by
    rcases hown i v g b z h with h1 | h1
    · exact ⟨i, v, b, z, h1⟩
    · omega

/-- Which boxes a step may turn: those from 'wp' on. -/
structure Fr (wp : Nat) (κ : K) (H : Heap) (w : World) (κ' : K) (H' : Heap) (w' : World) : Prop where
  len : H.length ≤ H'.length
  at_ : ∀ i, i < H.length → ((∀ v, κ'.box i v = κ.box i v) ∧ H'[i]? = H[i]? ∧ ∀ (bx : Box) (g b z : Nat), H[i]? = some bx → bx.live = true → κ.box i bx.ver = some (g, b, z) → w'.heap[g]? = w.heap[g]?) ∨ (wp ≤ i ∧ ∃ v x, κ.box i v = some x)

theorem Fr.refl (wp : Nat) (κ : K) (H : Heap) (w : World) : Fr wp κ H w κ H w := ⟨Nat.le_refl _, fun _ _ => .inl ⟨fun _ => rfl, rfl, fun _ _ _ _ _ _ _ => rfl⟩⟩

theorem Fr.trans {wp : Nat} {κ κ' κ'' : K} {H H' H'' : Heap} {w w' w'' : World} (h : Fr wp κ H w κ' H' w') (k : Fr wp κ' H' w' κ'' H'' w'') : Fr wp κ H w κ'' H'' w'' where
  len := Nat.le_trans h.len k.len
  at_ i hi := by
    rcases h.at_ i hi with ⟨h1, h2, h3⟩ | h1
    · rcases k.at_ i (Nat.lt_of_lt_of_le hi h.len) with ⟨k1, k2, k3⟩ | ⟨k1, v, x, k2⟩
      · refine .inl ⟨fun v => (k1 v).trans (h1 v), k2.trans h2, fun bx g b z e1 e2 e3 => ?_⟩
        exact (k3 bx g b z (h2.trans e1) e2 ((h1 _).trans e3)).trans (h3 bx g b z e1 e2 e3)
      · exact .inr ⟨k1, v, x, by rw [← h1]; exact k2⟩
    · exact .inr h1

theorem Fr.mono {wp wp' : Nat} {κ κ' : K} {H H' : Heap} {w w' : World} (h : Fr wp κ H w κ' H' w') (hle : wp' ≤ wp) : Fr wp' κ H w κ' H' w' :=
  ⟨h.len, fun i hi => (h.at_ i hi).imp id fun ⟨a, b⟩ => ⟨Nat.le_trans hle a, b⟩⟩

/-- One box is turned. -/
theorem Fr.one {Γ : Env} {wp : Nat} {κ κ' : K} {H H' : Heap} {w w' : World} (hi : HInv Γ κ H w) {i : Nat} {bx : Box} {g b z : Nat} (hwp : wp ≤ i) (hbx : H[i]? = some bx) (hl : bx.live = true) (hκ : κ.box i bx.ver = some (g, b, z))
    (hlen : H'.length = H.length) (h1 : ∀ j v, j ≠ i → κ'.box j v = κ.box j v) (h2 : ∀ j, j ≠ i → H'[j]? = H[j]?) (h3 : ∀ k, k < w.heap.size → k ≠ g → w'.heap[k]? = w.heap[k]?) : Fr wp κ H w κ' H' w' where
  len := Nat.le_of_eq hlen.symm
  at_ j hj := by
    by_cases e : j = i
    · subst e; exact .inr ⟨hwp, _, _, hκ⟩
    · refine .inl ⟨fun v => h1 j v e, h2 j e, fun bj g' b' z' e1 e2 e3 => ?_⟩
      exact h3 g' (hi.lt _ _ _ _ _ e3) (fun e4 => by
        have := hi.disj i j bx bj hbx e1 (Ne.symm e) hl e2 _ _ _ _ _ _ hκ e3
        exact this e4.symm)

/-- A box more. -/
theorem Fr.more {Γ : Env} {wp : Nat} {κ κ' : K} {H H' : Heap} {w w' : World} (hi : HInv Γ κ H w) (hlen : H.length ≤ H'.length) (h1 : ∀ j v, j < H.length → κ'.box j v = κ.box j v) (h2 : ∀ j, j < H.length → H'[j]? = H[j]?)
    (h3 : ∀ k, k < w.heap.size → w'.heap[k]? = w.heap[k]?) : Fr wp κ H w κ' H' w' where
  len := hlen
  at_ j hj := .inl ⟨fun v => h1 j v hj, h2 j hj, fun bj g' b' z' _ _ e3 => h3 g' (hi.lt _ _ _ _ _ e3)⟩

end Go.AM
end
