import Derived.Test.YtlnnhldhhaooiaaC4
import Derived.Test.YtlnnhldhhaooiaaC5

set_option linter.unusedVariables false
set_option linter.unusedSimpArgs false
set_option linter.unusedSectionVars false
set_option linter.unnecessarySimpa false

section
namespace Go.Proofs.Tryt17A
open Go Go.AM Go.Proofs Go.Sort Go.RowKit
set_option linter.unusedVariables false
variable {κ : K} {H : Heap} {w w' : World} {wp : Nat} {Δ : Env}

theorem sortI_try : SortI Try.prog 36 :=
  ⟨fun blk off cap zs w h1 h2 h3 => Any.slices_Sort_int Try.sortI blk off cap zs w h1 h2 h3, fun p cap w => Any.slices_Sort_int_none Try.sortI p cap w⟩

theorem cmpI_lt (x y : Int) : cmpI x y < 0 ↔ x < y := by unfold cmpI; split <;> (try split) <;> omega
theorem cmpI_eq (x y : Int) : cmpI x y = 0 ↔ x = y := by unfold cmpI; split <;> (try split) <;> omega
theorem cmpP_lt (x y : Int × Int) : cmpP x y < 0 ↔ x.1 < y.1 ∨ x.1 = y.1 ∧ x.2 < y.2 := by
  unfold cmpP
  split
  · rename_i h
    rw [cmpI_eq] at h
    rw [cmpI_lt]; omega
  · rename_i h
    rw [cmpI_eq] at h
    rw [cmpI_lt]; omega
theorem swoP : SWO (ltOf cmpP) where
  irrefl x := by simp only [ltOf, decide_eq_false_iff_not, cmpP_lt]; omega
  trans x y z h1 h2 := by simp only [ltOf, decide_eq_true_eq, cmpP_lt] at *; omega
  ntrans x y z h1 h2 := by simp only [ltOf, decide_eq_false_iff_not, cmpP_lt] at *; omega

theorem sortP_of (d d' : Array (Int × Int)) (h1 : PermIn 0 d.size d d') (h2 : SortedIn (ltOf cmpP) 0 d.size d') : d'.toList = sortP d.toList := by
  obtain ⟨hs, _, hp⟩ := h1
  rw [show d.extract 0 d.size = d by simp, show d'.extract 0 d.size = d' by rw [← hs]; simp] at hp
  refine List.Perm.eq_of_pairwise (le := leP) (fun a b _ _ h1 h2 => ?_) ?_ (sortP_sorted d.toList) (hp.trans (sortP_perm d.toList).symm)
  · simp only [leP] at h1 h2
    exact Prod.ext (by omega) (by omega)
  · rw [List.pairwise_iff_getElem]
    intro i j hi hj hij
    have hi' : i < d'.size := by simpa using hi
    have hj' : j < d'.size := by simpa using hj
    have := h2 i j (Nat.zero_le _) hij (by rw [← hs]; exact hj')
    rw [getElem!_pos d' i hi', getElem!_pos d' j hj'] at this
    simp only [ltOf, decide_eq_false_iff_not, cmpP_lt] at this
    simp only [Array.getElem_toList, leP]
    omega

theorem cellP (l : List (Int × Int)) {e f : Nat} {el : List AV} {a : AV} (h : (l.map encP)[e]? = some el) (hf : el[f]? = some a) : f < 2 ∧ ∃ x, l[e]? = some x ∧ V κ w a (encV x)[f]! := by
  rw [List.getElem?_map, Option.map_eq_some_iff] at h
  obtain ⟨x, hx, rfl⟩ := h
  have h2 : f < 2 := (List.getElem?_eq_some_iff.1 hf).1
  refine ⟨h2, x, hx, ?_⟩
  match f, h2 with
  | 0, _ => have : a = .int .i64 x.1 := by simpa [encP] using hf.symm
            subst this; simp [V, encV]
  | 1, _ => have : a = .int .i64 x.2 := by simpa [encP] using hf.symm
            subst this; simp [V, encV]

theorem prim23_snd (hnone : ∀ (p : Option Addr) (cap : Nat) (fv : Value) (w : World), Calls Try.prog 23 #[.slice p 0 cap, fv] w fun e w' => e = .returned (.tuple #[]) ∧ w' = w)
    (hP : Δ.P = Try.prog) (args : List AV) (H : Heap) (v : AV) (H' : Heap) (κ : K) (w : World) (vs : List Value) (wp n : Nat) (hp : prim23 wp args H = some (v, H')) (hi : HInv Δ κ H w) (hv : VL κ w args vs) :
    CallsIn Fence.wide n Try.prog 23 vs.toArray w (Post Δ wp κ H w H' v) := by
  refine callsIn_wide.2 ?_
  unfold prim23 at hp
  split at hp
  · rename_i i ver m c
    split at hp
    · rename_i hwp
      obtain ⟨hwp, hbig⟩ := hwp
      simp only [Option.bind_eq_bind, Option.bind_eq_some_iff] at hp
      obtain ⟨all, h1, es, h2, l, h3, h4⟩ := hp
      simp at h4
      obtain ⟨rfl, rfl⟩ := h4
      simp only [VL, V] at hv
      obtain ⟨u, us, rfl, ⟨g, b, cap, k1, rfl, k2, k3, k4⟩, fv, us2, rfl, ⟨cb, rfl, hcb⟩, rfl⟩ := hv
      have hcb0 : cb = #[] := by
        have : cb.toList = [] := hcb
        exact Array.toList_eq_nil_iff.1 this
      subst hcb0
      have he := mapO_decP h3
      subst he
      obtain ⟨r1, r2, r3, r4, r5⟩ := row_cell hi h1 h2 k1
      rw [List.length_map] at r2
      subst r2
      have hst : HoldsK encV 2 w g (b + 0 * 2) l.toArray := fun j hj => by
        rw [size_flatK] at hj
        rw [get_flatK encV 2 l.toArray j hj]
        have hj2 : j / 2 < l.length := by have : l.toArray.size = l.length := by simp
                                          omega
        have hm : j % 2 < 2 := Nat.mod_lt _ (by omega)
        have hel : (l.map encP)[j / 2]? = some (encP l[j / 2]) := by simp [hj2]
        obtain ⟨a, ha⟩ : ∃ a, (encP l[j / 2])[j % 2]? = some a := by
          rw [List.getElem?_eq_getElem (by show j % 2 < 2; exact hm)]; exact ⟨_, rfl⟩
        obtain ⟨u, u1, u2, u3⟩ := r5 (j / 2) _ hel (j % 2) a ha
        have e : b + j / 2 * 2 + j % 2 = b + 0 * 2 + j := by omega
        rw [e] at u1 u2
        refine ⟨?_, u2⟩
        rw [u1, getElem!_pos l.toArray (j / 2) (by simpa using hj2)]
        obtain ⟨_, x, hx, hvv⟩ := cellP (κ := κ) (w := w) l hel ha
        rw [List.getElem?_eq_getElem hj2] at hx
        have hx' : l[j / 2] = x := by simpa using hx
        have : u = (encV x)[j % 2]! := by
          rcases (by omega : j % 2 = 0 ∨ j % 2 = 1) with h | h <;> rw [h] at ha hvv ⊢ <;>
          · have ha' := ha
            simp [encP] at ha'
            subst ha'
            simp only [V] at u3 hvv
            rw [u3, hvv]
        simp [this, ← hx']
      have key := AnyQ.slices_SortFunc Try.sortP 2 Try.isAgg37 Try.sizeOf37 encV (fun _ => rfl) (fun x v hv => by simp [encV] at hv; rcases hv with rfl | rfl <;> rfl) cmpP swoP 24 #[] g (b + 0 * 2) cap l.toArray w Try.call24 (fun m os dk _ x y => call24 x y _) hst r4 (by simpa using hbig)
      refine key.mono fun e w' he => ?_
      obtain ⟨rfl, d', q, os, p1, p2, rfl⟩ := he
      have hd := sortP_of _ _ p1 p2
      have hd2 : d' = (sortP l).toArray := by
        rw [show l.toArray.toList = l from rfl] at hd
        rw [← hd]
      subst hd2
      have hlen : (sortP l).length = l.length := (sortP_perm l).length_eq
      have hm : ((sortP l).map encP).length = l.length := by simp [hlen]
      obtain ⟨κ', j1, j2, j3⟩ := HInv.row (wp := wp) (id : Value → Value) hi (es := (sortP l).map encP) r1 k1 hwp (flatK encV 2 (sortP l).toArray) (by simp) (by rw [hm]; exact r3) (fun e el hel => by
        refine ⟨?_, fun f a hf => ?_⟩
        · rw [List.getElem?_map, Option.map_eq_some_iff] at hel
          obtain ⟨x, _, rfl⟩ := hel; rfl
        · have hel' := hel
          rw [List.getElem?_map, Option.map_eq_some_iff] at hel'
          obtain ⟨x0, hx0, rfl⟩ := hel'
          have h2 : f < 2 := (List.getElem?_eq_some_iff.1 hf).1
          refine ⟨?_, fun κ' w' => ?_⟩
          · match f, h2 with
            | 0, _ => have : a = .int .i64 x0.1 := by simpa [encP] using hf.symm
                      subst this; rfl
            | 1, _ => have : a = .int .i64 x0.2 := by simpa [encP] using hf.symm
                      subst this; rfl
          · obtain ⟨_, x, hx, hvv⟩ := cellP (κ := κ') (w := w') _ hel hf
            obtain ⟨hlt, hx'⟩ := List.getElem?_eq_some_iff.1 hx
            rw [get_flatK encV 2 _ _ (by simp; omega), show (e * 2 + f) / 2 = e by omega, show (e * 2 + f) % 2 = f by omega, getElem!_pos (sortP l).toArray e (by simpa using hlt)]
            simpa [hx'] using hvv) q os
      rw [hm] at j2 j3
      rw [show b + 0 * 2 = b by omega]
      exact ⟨κ', j1, j2, j3, tup0⟩
    · cases hp
  · simp at hp
    obtain ⟨rfl, rfl⟩ := hp
    simp only [VL, V] at hv
    obtain ⟨u, us, rfl, rfl, fv, us2, rfl, _, rfl⟩ := hv
    exact (hnone none 0 fv w).mono fun e w' he => post_self hi he
  · simp at hp
    obtain ⟨rfl, rfl⟩ := hp
    simp only [VL, V] at hv
    obtain ⟨u, us, rfl, ⟨a, z, cap, rfl, _⟩, fv, us2, rfl, _, rfl⟩ := hv
    exact (hnone (some a) cap fv w).mono fun e w' he => post_self hi he
  · cases hp
end Go.Proofs.Tryt17A
end
