import Derived.Test.YtlnnhldhhaooiaaRows
import Derived.ProofKit
import Derived.Deep.Slices
import Derived.OpenShut
import Derived.Test.YtlnnhldhhaooiaaC7
import Derived.Shelf.SlSortCmp.NoneTotal

set_option linter.unusedVariables false
set_option linter.unusedSimpArgs false
set_option linter.unusedSectionVars false
set_option linter.unnecessarySimpa false

section
namespace Go.Proofs.Ytlnnhldhhaooiaa
open Go.ChangeShapes Go.WideShapes Go.ChangeAt Go.RowKit
open Go Go.Proofs.Tryt17A

theorem own : ownKnob Try.prog.godebug = none := by kernel_rfl
theorem laidOut : laidOutB Try.prog = true := by kernel_rfl
theorem cells3 : Try.prog.cellsOf 3 = 1 := by kernel_rfl
theorem cells37 : Try.prog.cellsOf 37 = 2 := by kernel_rfl
theorem read22 : Try.prog.readableRec 22 = true := by kernel_rfl
theorem read23 : Try.prog.readableRec 23 = true := by kernel_rfl
theorem size22 : 22 < Try.prog.types.size := of_decide_eq_true (by kernel_rfl)
theorem size23 : 23 < Try.prog.types.size := of_decide_eq_true (by kernel_rfl)

section
variable {H : Type} {enc : TypeId × Value → H} {W : World} {base : Nat} {spare : Nat → Bool} {held : Bool}

theorem len_le {s : Bool} {len cap n : Nat} (h : n = (if s then cap else len)) (hl : len ≤ cap) : len ≤ n := by
  cases s <;> simp at h <;> omega

theorem pick_list {α : Type} {P : Nat → α → Prop} : ∀ n, (∀ i, i < n → ∃ q, P i q) → ∃ l : List α, l.length = n ∧ ∀ (i : Nat) (hi : i < l.length), P i l[i]
  | 0, _ => ⟨[], rfl, fun i hi => by simp at hi⟩
  | k + 1, each => by
    obtain ⟨l, hl1, hl2⟩ := pick_list k (fun i hi => each i (by omega))
    obtain ⟨q, hq⟩ := each k (by omega)
    refine ⟨l ++ [q], by simp [hl1], fun i hi => ?_⟩
    by_cases hlt : i < l.length
    · rw [List.getElem_append_left hlt]; exact hl2 i hlt
    · have : i = k := by simp at hi; omega
      subst this
      rw [List.getElem_append_right (by omega)]
      simpa using hq

theorem inI {v : Value} {d : DataW H} {p : List MemPlace} (hv : ∃ a n c, v = .slice a n c) (h : DataW.Trod enc Try.prog W base spare held 23 v d p) : InI W v := by
  obtain ⟨a0, n0, c0, rfl⟩ := hv
  obtain ⟨fuel, hf⟩ := h
  rcases open_ints Try.underlying23 Try.underlying3 cells3 hf with ⟨hcs, _⟩ | ⟨a, len, cap, zs, hcs, _, hl, _, hz, _, hcell, _⟩
  · left; simpa [Value.cells] using hcs
  · right
    have e : Value.slice a0 n0 c0 = .slice (some a) len cap := by simpa [Value.cells] using hcs
    have hlz := len_le hz hl
    refine ⟨a, zs.take len, cap, ?_, ?_, fun i hi => ?_⟩
    · rw [e]; simp; omega
    · simp; omega
    · have hi' : i < zs.length := by simp at hi; omega
      rw [hcell i hi']
      simp [List.getD, List.getElem?_eq_getElem hi']

theorem cell_pair {m : Nat} {cs : List Value} {x : DataW H × List MemPlace} (h : DataW.trod enc Try.prog W base spare held m 37 cs = some x) : ∃ a b : Int, cs = [.int .i64 a, .int .i64 b] := by
  obtain ⟨xs, m', _, _, hlen, hxs, hi⟩ := DataW.trod_array Try.underlying37 h
  rw [cells37] at hlen
  have h0 := hi 0 (by omega)
  have h1 := hi 1 (by omega)
  rw [cells3] at h0 h1
  rw [List.getElem?_eq_getElem (by omega)] at h0 h1
  obtain ⟨a, ha, _⟩ := DataW.trod_int Try.underlying3 h0
  obtain ⟨b, hb, _⟩ := DataW.trod_int Try.underlying3 h1
  match cs, hlen with
  | [c0, c1], _ =>
    simp at ha hb
    exact ⟨a, b, by rw [ha, hb]⟩

theorem inP {v : Value} {d : DataW H} {p : List MemPlace} (hv : ∃ a n c, v = .slice a n c) (h : DataW.Trod enc Try.prog W base spare held 22 v d p) : InP W v := by
  obtain ⟨a0, n0, c0, rfl⟩ := hv
  obtain ⟨fuel, hf⟩ := h
  rcases Go.Deep.open_slice Try.underlying22 hf with ⟨hcs, _⟩ | ⟨a, len, cap, m, n, D, Pl, hcs, _, hl, _, hm, _, hel⟩
  · left; simpa [Value.cells] using hcs
  · right
    have e : Value.slice a0 n0 c0 = .slice (some a) len cap := by simpa [Value.cells] using hcs
    have hlm := len_le hm hl
    have each : ∀ i, i < len → ∃ q : Int × Int, W.cell? (a.add (i * 2)) = some (.int .i64 q.1) ∧ W.cell? (a.add (i * 2 + 1)) = some (.int .i64 q.2) := fun i hi => by
      obtain ⟨cs', h1, h2⟩ := hel i (by omega)
      obtain ⟨x, y, rfl⟩ := cell_pair h2
      rw [cells37] at h1
      obtain ⟨_, _, h3⟩ := World.cells?_some h1
      have k0 := h3 0 (by omega)
      have k1 := h3 1 (by omega)
      have e0 : (a.add (i * 2)).add 0 = a.add (i * 2) := by simp [Addr.add]
      rw [e0] at k0
      have k0' : W.cell? (a.add (i * 2)) = some (.int .i64 x) := by simpa using k0
      have e1 : (a.add (i * 2)).add 1 = a.add (i * 2 + 1) := by
        unfold Addr.add
        by_cases hz : i * 2 = 0
        · simp [hz]
        · simp [hz]; omega
      rw [e1] at k1
      exact ⟨(x, y), k0', by simpa using k1⟩
    have := pick_list (P := fun i (q : Int × Int) => W.cell? (a.add (i * 2)) = some (.int .i64 q.1) ∧ W.cell? (a.add (i * 2 + 1)) = some (.int .i64 q.2)) len each
    obtain ⟨l, hl1, hl2⟩ := this
    exact ⟨a, l, cap, by rw [e, hl1], by omega, hl2⟩
end

theorem below_of {W W' : World} {e : Ending} (h : Said W e W') : Below W.heap.size W W' := ⟨h.2.2.2.1, h.2.2.2.2.1, h.2.2.2.2.2, h.2.2.1, h.2.1⟩

set_option maxRecDepth 100000 in
theorem pairsTells_lifted (hn : NoneP) (os : Os) (started : os.Started) (H : Type) (enc : TypeId × Value → H) :
    ReturnsInHanded {} Try.checked os 3 .any (Rows.pairsTellsSpec.pre6 enc Try.prog Try.f3 Rows.pairsTellsRow.domain false) (Rows.pairsTellsSpec.post enc Try.prog Try.f3 false true false false) := by
  refine returnsInHanded_of_change (C := Try.checked) own started (by kernel_rfl) Try.func3
    (ChangeSpec.witness6 (enc := enc) (C := Try.checked) false ⟨#[], #[.slice none 0 0, .slice none 0 0, .slice none 0 0], []⟩ 8 (by kernel_rfl) (by kernel_rfl) (by kernel_rfl) (by kernel_rfl)) ?_
  intro W base args ds gs before hval0 hW hcnd _
  have hval : ∀ (j : Nat) t v, Try.f3.params[j]? = some t → args[j]? = some v → Value.okWide Try.prog W .any base t v := hval0
  have hW' := hW
  obtain ⟨p, q, hA0, hV, rfl, hfz, hnd⟩ := hW
  have hA : DataW.TrodAll enc Try.prog W 0 (fun _ => true) true Try.f3.params.toList args.toList ds p := hA0
  rw [Try.params3] at hA hval
  obtain ⟨v0, v1, v2, d0, d1, d2, p0, p1, p2, rfl, rfl, rfl, h0, h1, h2⟩ := trodAll_three hA
  obtain ⟨rfl, rfl⟩ := trodVars_none hV
  have s0 := okWide_slice Try.underlying22 (hval 0 22 v0 rfl rfl)
  have s1 := okWide_slice Try.underlying22 (hval 1 22 v1 rfl rfl)
  have s2 := okWide_slice Try.underlying23 (hval 2 23 v2 rfl rfl)
  clear hA0 hval0
  simp only [List.append_nil] at hW'
  have hlt := hW'.lt
  refine (f3_any hn v0 v1 v2 (inP s0 h0) (inP s1 h1) (inI s2 h2)).mono fun e W' he => ?_
  have hb := below_of he
  obtain ⟨rfl, _⟩ := he
  have l0 : ∀ x ∈ p0, x.block < W.heap.size := fun x hx => hlt x (by simp [hx])
  have l1 : ∀ x ∈ p1, x.block < W.heap.size := fun x hx => hlt x (by simp [hx])
  have l2 : ∀ x ∈ p2, x.block < W.heap.size := fun x hx => hlt x (by simp [hx])
  have t0 := Below.trod laidOut read22 size22 h0 hb l0
  have t1 := Below.trod laidOut read22 size22 h1 hb l1
  have t2 := Below.trod laidOut read23 size23 h2 hb l2
  refine ⟨_, rfl, [d0, d1, d2], [], _, [], p0 ++ (p1 ++ (p2 ++ [])), [], hW', trodAll_mk1 (shut_bool Try.underlying4 _), ?_, rfl, hb.frame _, fun h => by cases h⟩
  show DataW.TrodAll enc Try.prog W' 0 (fun b => decide (b < W.heap.size)) true Try.f3.params.toList [v0, v1, v2] [d0, d1, d2] _
  rw [Try.params3]
  exact ⟨_, _, t0, ⟨_, _, t1, ⟨_, _, t2, rfl, rfl⟩, rfl⟩, rfl⟩

theorem noneP : NoneP := fun p cap fv w => AnyF.slices_SortFunc_none (P := Try.prog) (ρ := Try.sortP_ren) Try.sortP p cap fv w

theorem pairsTells_holds : Rows.PairsTellsSaid :=
  OpenClaim.holds_of_wide 3 Try.f3 rfl rfl rfl rfl rfl rfl rfl ⟨rfl, rfl, rfl, rfl, rfl⟩ rfl rfl rfl rfl rfl (by kernel_rfl) Try.func3 (by kernel_rfl)
    (of_decide_eq_true (by kernel_rfl)) (by unfold Func.isWrapper; first | (rw [if_pos (by decide +kernel)]; kernel_rfl) | (rw [if_neg (by decide +kernel)]; exact ⟨rfl, rfl⟩))
    (fun os started H enc _ => pairsTells_lifted noneP os started H enc)

set_option maxRecDepth 100000 in
theorem pairsGrow_lifted (hn : NoneP) (os : Os) (started : os.Started) (H : Type) (enc : TypeId × Value → H) :
    ReturnsInHanded {} Try.checked os 4 .any (Rows.pairsGrowSpec.pre6 enc Try.prog Try.f4 Rows.pairsGrowRow.domain false) (Rows.pairsGrowSpec.post enc Try.prog Try.f4 false true false false) := by
  refine returnsInHanded_of_change (C := Try.checked) own started (by kernel_rfl) Try.func4
    (ChangeSpec.witness6 (enc := enc) (C := Try.checked) false ⟨#[], #[.slice none 0 0, .slice none 0 0, .slice none 0 0, .slice none 0 0], []⟩ 8 (by kernel_rfl) (by kernel_rfl) (by kernel_rfl) (by kernel_rfl)) ?_
  intro W base args ds gs before hval0 hW hcnd _
  have hval : ∀ (j : Nat) t v, Try.f4.params[j]? = some t → args[j]? = some v → Value.okWide Try.prog W .any base t v := hval0
  have hW' := hW
  obtain ⟨p, q, hA0, hV, rfl, hfz, hnd⟩ := hW
  have hA : DataW.TrodAll enc Try.prog W 0 (fun _ => true) true Try.f4.params.toList args.toList ds p := hA0
  rw [Try.params4] at hA hval
  obtain ⟨v0, v1, v2, v3, d0, d1, d2, d3, p0, p1, p2, p3, rfl, rfl, rfl, h0, h1, h2, h3⟩ := trodAll_four hA
  obtain ⟨rfl, rfl⟩ := trodVars_none hV
  have s0 := okWide_slice Try.underlying22 (hval 0 22 v0 rfl rfl)
  have s1 := okWide_slice Try.underlying22 (hval 1 22 v1 rfl rfl)
  have s2 := okWide_slice Try.underlying23 (hval 2 23 v2 rfl rfl)
  have s3 := okWide_slice Try.underlying23 (hval 3 23 v3 rfl rfl)
  clear hA0 hval0
  simp only [List.append_nil] at hW'
  have hlt := hW'.lt
  refine (f4_any hn v0 v1 v2 v3 (inP s0 h0) (inP s1 h1) (inI s2 h2) (inI s3 h3)).mono fun e W' he => ?_
  have hb := below_of he
  obtain ⟨rfl, _⟩ := he
  have l0 : ∀ x ∈ p0, x.block < W.heap.size := fun x hx => hlt x (by simp [hx])
  have l1 : ∀ x ∈ p1, x.block < W.heap.size := fun x hx => hlt x (by simp [hx])
  have l2 : ∀ x ∈ p2, x.block < W.heap.size := fun x hx => hlt x (by simp [hx])
  have l3 : ∀ x ∈ p3, x.block < W.heap.size := fun x hx => hlt x (by simp [hx])
  have t0 := Below.trod laidOut read22 size22 h0 hb l0
  have t1 := Below.trod laidOut read22 size22 h1 hb l1
  have t2 := Below.trod laidOut read23 size23 h2 hb l2
  have t3 := Below.trod laidOut read23 size23 h3 hb l3
  refine ⟨_, rfl, [d0, d1, d2, d3], [], _, [], p0 ++ (p1 ++ (p2 ++ (p3 ++ []))), [], hW', trodAll_mk1 (shut_bool Try.underlying4 _), ?_, rfl, hb.frame _, fun h => by cases h⟩
  show DataW.TrodAll enc Try.prog W' 0 (fun b => decide (b < W.heap.size)) true Try.f4.params.toList [v0, v1, v2, v3] [d0, d1, d2, d3] _
  rw [Try.params4]
  exact ⟨_, _, t0, ⟨_, _, t1, ⟨_, _, t2, ⟨_, _, t3, rfl, rfl⟩, rfl⟩, rfl⟩, rfl⟩

theorem pairsGrow_holds : Rows.PairsGrowSaid :=
  OpenClaim.holds_of_wide 4 Try.f4 rfl rfl rfl rfl rfl rfl rfl ⟨rfl, rfl, rfl, rfl, rfl⟩ rfl rfl rfl rfl rfl (by kernel_rfl) Try.func4 (by kernel_rfl)
    (of_decide_eq_true (by kernel_rfl)) (by unfold Func.isWrapper; first | (rw [if_pos (by decide +kernel)]; kernel_rfl) | (rw [if_neg (by decide +kernel)]; exact ⟨rfl, rfl⟩))
    (fun os started H enc _ => pairsGrow_lifted noneP os started H enc)
end Go.Proofs.Ytlnnhldhhaooiaa
end
