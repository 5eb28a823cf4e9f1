import Derived.Test.YtlnnhldhhaooiaaC2
import Derived.Test.YtlnnhldhhaooiaaBg

set_option linter.unusedVariables false
set_option linter.unusedSimpArgs false
set_option linter.unusedSectionVars false
set_option linter.unnecessarySimpa false

section
namespace Go.Proofs.Tryt17A
open Go Go.AM Go.Proofs Go.Sort
set_option linter.unusedVariables false
variable {κ : K} {H : Heap} {w w' : World} {wp : Nat} {Δ : Env}

theorem mapO_decI : ∀ {es : List (List AV)} {l : List Int}, mapO decI es = some l → es = l.map encI
  | [], l, h => by simp [mapO] at h; subst h; rfl
  | e :: es, l, h => by
    simp only [mapO, Option.bind_eq_bind, Option.bind_eq_some_iff] at h
    obtain ⟨x, hx, r, hr, hl⟩ := h
    have : l = x :: r := by simpa using hl.symm
    subst this
    rw [mapO_decI hr]
    have : e = encI x := by
      unfold decI at hx
      split at hx
      · simp at hx; subst hx; rfl
      · cases hx
    rw [this]; rfl
theorem mapO_decP : ∀ {es : List (List AV)} {l : List (Int × Int)}, mapO decP es = some l → es = l.map encP
  | [], l, h => by simp [mapO] at h; subst h; rfl
  | e :: es, l, h => by
    simp only [mapO, Option.bind_eq_bind, Option.bind_eq_some_iff] at h
    obtain ⟨x, hx, r, hr, hl⟩ := h
    have : l = x :: r := by simpa using hl.symm
    subst this
    rw [mapO_decP hr]
    have : e = encP x := by
      unfold decP at hx
      split at hx
      · simp at hx; subst hx; rfl
      · cases hx
    rw [this]; rfl

/-- A row's cells, read. -/
theorem row_cell (hi : HInv Δ κ H w) {i v g b z n : Nat} {es all : List (List AV)} (hr : rdRow H i v = some all) (he : rdEls H i v 0 n = some es) (hκ : κ.box i v = some (g, b, z)) :
    H[i]? = some (.cells v all) ∧ es.length = n ∧ n ≤ all.length ∧ g < w.heap.size ∧ ∀ (e : Nat) (el : List AV), es[e]? = some el → ∀ (f : Nat) (a : AV), el[f]? = some a → ∃ u : Value, w.cell? ⟨g, b + e * z + f, none⟩ = some u ∧ w.frozen? ⟨g, b + e * z + f, none⟩ = false ∧ V κ w a u := by
  have hbx : H[i]? = some (.cells v all) := by
    unfold rdRow at hr
    split at hr
    · rename_i v' es' h
      split at hr
      · rename_i hv; subst hv; simp at hr; subst hr; exact h
      · cases hr
    · cases hr
  simp only [rdEls, hr, Option.bind_eq_bind, Option.bind_some, Nat.zero_add] at he
  split at he
  · rename_i hle
    have : es = all.take n := by simpa using he.symm
    subst this
    obtain ⟨⟨arr, T, hg, hva⟩, _⟩ := hi.box i _ hbx g b z hκ
    refine ⟨hbx, by simp; omega, hle, (Array.getElem?_eq_some_iff.1 hg).1, fun e el hel f a hf => ?_⟩
    have h1 : all[e]? = some el := by
      rw [List.getElem?_take] at hel
      split at hel
      · exact hel
      · cases hel
    obtain ⟨_, h3⟩ := hva.2 e el h1
    obtain ⟨_, u, h4, h5⟩ := h3 f a hf
    refine ⟨u, ?_, ?_, h5⟩
    · simp only [World.cell?, hg]; simpa using h4
    · simp [World.frozen?, hg]
  · cases he

theorem sortI_merge (l : List Int) : (l.mergeSort fun x y => decide (x ≤ y)) = sortI l := by
  refine List.Perm.eq_of_pairwise (le := (· ≤ ·)) (fun a b _ _ h1 h2 => Int.le_antisymm h1 h2) ?_ (sortI_sorted l) ((List.mergeSort_perm _ _).trans (sortI_perm l).symm)
  have := List.pairwise_mergeSort (le := fun (x y : Int) => decide (x ≤ y)) (fun a b c h1 h2 => by simp at *; omega) (fun a b => by simp; omega) l
  exact this.imp fun h => by simpa using h

/-- What the library says of slices.Sort at numbers. -/
def SortI (P : Program) (f : Nat) : Prop :=
  (∀ (blk off cap : Nat) (zs : List Int) (w : World), Holds (Value.int .i64) w blk off zs.toArray → blk < w.heap.size → zs.length < 4611686018427387904 →
    Calls P f #[.slice (some ⟨blk, off, none⟩) zs.length cap] w fun e w' => e = .returned (.tuple #[]) ∧ ∃ n os, w' = grow (putRow (Value.int .i64) (Sort.ahead w n) blk off (zs.mergeSort fun x y => decide (x ≤ y)).toArray) os) ∧
  ∀ (p : Option Addr) (cap : Nat) (w : World), Calls P f #[.slice p 0 cap] w fun e w' => e = .returned (.tuple #[]) ∧ w' = w

theorem tup0 {κ' : K} {w' : World} : V κ' w' (.tup []) (.tuple #[]) := by
  simp only [V]; exact ⟨#[], rfl, by simp [VL]⟩

theorem post_self (hi : HInv Δ κ H w) {e : Ending} {w' : World} (h : e = .returned (.tuple #[]) ∧ w' = w) : Post Δ wp κ H w H (.tup []) e w' := by
  obtain ⟨rfl, rfl⟩ := h
  exact ⟨κ, Le.refl _ _, Fr.refl _ _ _ _, hi, tup0⟩

theorem cellI (l : List Int) {e f : Nat} {el : List AV} {a : AV} (h : (l.map encI)[e]? = some el) (hf : el[f]? = some a) : f = 0 ∧ ∃ x, l[e]? = some x ∧ a = .int .i64 x := by
  rw [List.getElem?_map, Option.map_eq_some_iff] at h
  obtain ⟨x, hx, rfl⟩ := h
  have : f < 1 := (List.getElem?_eq_some_iff.1 hf).1
  have : f = 0 := by omega
  subst this
  exact ⟨rfl, x, hx, by simpa [encI] using hf.symm⟩

theorem prim36_snd (hs : SortI Δ.P 36) (args : List AV) (H : Heap) (v : AV) (H' : Heap) (κ : K) (w : World) (vs : List Value) (wp n : Nat) (hp : prim36 wp args H = some (v, H')) (hi : HInv Δ κ H w) (hv : VL κ w args vs) :
    CallsIn Fence.wide n Δ.P 36 vs.toArray w (Post Δ wp κ H w H' v) := by
  refine callsIn_wide.2 ?_
  unfold prim36 at hp
  split at hp
  · rename_i i ver m c
    split at hp
    · rename_i hwp
      obtain ⟨hwp, hbig⟩ := hwp
      simp only [Option.bind_eq_bind, Option.bind_eq_some_iff] at hp
      obtain ⟨all, h1, es, h2, l, h3, h4⟩ := hp
      simp at h4
      obtain ⟨rfl, rfl⟩ := h4
      simp only [VL, V] at hv
      obtain ⟨u, us, rfl, ⟨g, b, cap, k1, rfl, k2, k3, k4⟩, rfl⟩ := hv
      have he := mapO_decI h3
      subst he
      obtain ⟨r1, r2, r3, r4, r5⟩ := row_cell hi h1 h2 k1
      rw [List.length_map] at r2
      subst r2
      have hst : Holds (Value.int .i64) w g (b + 0 * 1) l.toArray := fun j hj => by
        have hj' : j < l.length := by simpa using hj
        obtain ⟨u, u1, u2, u3⟩ := r5 j (encI l[j]) (by simp [hj']) 0 (.int .i64 l[j]) rfl
        simp only [V] at u3
        subst u3
        have e : b + j * 1 + 0 = b + 0 * 1 + j := by omega
        rw [e] at u1 u2
        refine ⟨?_, u2⟩
        rw [u1, getElem!_pos l.toArray j hj]
        simp
      · refine (hs.1 g (b + 0 * 1) cap l w hst r4 hbig).mono fun e w' he => ?_
        obtain ⟨rfl, q, os, rfl⟩ := he
        rw [sortI_merge]
        have hlen : (sortI l).length = l.length := (sortI_perm l).length_eq
        have hm : ((sortI l).map encI).length = l.length := by simp [hlen]
        obtain ⟨κ', j1, j2, j3⟩ := HInv.row (wp := wp) (Value.int .i64) hi (es := (sortI l).map encI) r1 k1 hwp (sortI l).toArray (by simp) (by rw [hm]; exact r3) (fun e el hel => by
          refine ⟨?_, fun f a hf => ?_⟩
          · rw [List.getElem?_map, Option.map_eq_some_iff] at hel
            obtain ⟨x, _, rfl⟩ := hel; rfl
          · obtain ⟨rfl, x, hx, rfl⟩ := cellI _ hel hf
            refine ⟨rfl, fun _ _ => ?_⟩
            simp only [V]
            obtain ⟨hlt, hx'⟩ := List.getElem?_eq_some_iff.1 hx
            rw [getElem!_pos (sortI l).toArray _ (by simp; omega)]
            simp [hx']) q os
        rw [hm] at j2 j3
        rw [show b + 0 * 1 = b by omega]
        exact ⟨κ', j1, j2, j3, tup0⟩
    · cases hp
  · simp at hp
    obtain ⟨rfl, rfl⟩ := hp
    simp only [VL, V] at hv
    obtain ⟨u, us, rfl, rfl, rfl⟩ := hv
    exact (hs.2 none 0 w).mono fun e w' he => post_self hi he
  · simp at hp
    obtain ⟨rfl, rfl⟩ := hp
    simp only [VL, V] at hv
    obtain ⟨u, us, rfl, ⟨a, z, cap, rfl, _⟩, rfl⟩ := hv
    exact (hs.2 (some a) cap w).mono fun e w' he => post_self hi he
  · cases hp
end Go.Proofs.Tryt17A
end
