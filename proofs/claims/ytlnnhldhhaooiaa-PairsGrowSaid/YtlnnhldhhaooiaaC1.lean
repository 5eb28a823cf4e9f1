import Derived.Test.YtlnnhldhhaooiaaProg
import Derived.KernelRfl
import Derived.Test.YtlnnhldhhaooiaaAj
import Derived.Test.YtlnnhldhhaooiaaBa
import Derived.Test.YtlnnhldhhaooiaaA34

set_option linter.unusedVariables false
set_option linter.unusedSimpArgs false
set_option linter.unusedSectionVars false
set_option linter.unnecessarySimpa false

section
namespace Go.Proofs.Tryt17A
open Go Go.AM Go.Proofs
def bd (f : Func) : Code := f.body.getD .skip
abbrev PF := Nat → List AV → Heap → Option (AV × Heap)
noncomputable def Γ (p q : PF) : Env := ⟨Try.prog, T p q, M⟩
variable {p q : PF}
/-- A function's place in the table is sound. -/
def OkF (p q : PF) (f : Nat) (a : AFn) : Prop := ∃ fn c, CodeFn (Γ p q) f fn c ∧ fn.ntmps = a.ntmps ∧ mapO (trRes (Γ p q).P) fn.results.toList = some a.res ∧ trC (Γ p q).P (Γ p q).M f c = strip a.body ∧ LoopsOk (Γ p q) f c
def AllOk (p q : PF) : Nat → List (Option AFun) → Prop
  | _, [] => True
  | k, none :: r => AllOk p q (k + 1) r
  | k, some (.prim _) :: r => AllOk p q (k + 1) r
  | k, some (.code a) :: r => OkF p q k a ∧ AllOk p q (k + 1) r
theorem allOk_get : ∀ (l : List (Option AFun)) (k : Nat), AllOk p q k l → ∀ i a, (l[i]?).join = some (.code a) → OkF p q (k + i) a
  | [], k, _, i, a, h => by simp at h
  | none :: r, k, ha, i, a, h => by
    cases i with
    | zero => simp at h
    | succ i => have := allOk_get r (k + 1) ha i a (by simpa using h); rwa [Nat.add_assoc, Nat.add_comm 1] at this
  | some (.prim _) :: r, k, ha, i, a, h => by
    cases i with
    | zero => simp at h
    | succ i => have := allOk_get r (k + 1) ha i a (by simpa using h); rwa [Nat.add_assoc, Nat.add_comm 1] at this
  | some (.code b) :: r, k, ha, i, a, h => by
    cases i with
    | zero => simp at h; subst h; exact ha.1
    | succ i => have := allOk_get r (k + 1) ha.2 i a (by simpa using h); rwa [Nat.add_assoc, Nat.add_comm 1] at this
/-- The loops over functions in a code. -/
def rfs : Code → List (Array Nat × Code × Code)
  | .seq a b => rfs a ++ rfs b
  | .cond _ a b => rfs a ++ rfs b
  | .block _ c => rfs c
  | .loop c => rfs c
  | .rangeFunc _ ps asg body => (ps, asg, body) :: (rfs asg ++ rfs body)
  | _ => []
def Lok (p q : PF) (f : Nat) (x : Array Nat × Code × Code) : Prop := ∃ aa ab, (Γ p q).T.loop (lidOf f x.1) = some (x.1.toList, aa, ab) ∧ trC (Γ p q).P (Γ p q).M f x.2.1 = strip aa ∧ trC (Γ p q).P (Γ p q).M f x.2.2 = strip ab
theorem loops_of (f : Nat) : ∀ c : Code, (∀ x ∈ rfs c, Lok p q f x) → LoopsOk (Γ p q) f c := by
  intro c
  induction c with
  | seq a b iha ihb => intro h; exact ⟨iha fun x hx => h x (List.mem_append_left _ hx), ihb fun x hx => h x (List.mem_append_right _ hx)⟩
  | cond o a b iha ihb => intro h; exact ⟨iha fun x hx => h x (List.mem_append_left _ hx), ihb fun x hx => h x (List.mem_append_right _ hx)⟩
  | block i c ih => exact ih
  | loop c ih => exact ih
  | rangeFunc o ps asg body iha ihb =>
    intro h
    exact ⟨h (ps, asg, body) (List.mem_cons_self ..), iha fun x hx => h x (List.mem_cons_of_mem _ (List.mem_append_left _ hx)), ihb fun x hx => h x (List.mem_cons_of_mem _ (List.mem_append_right _ hx))⟩
  | _ => intros; trivial
theorem okF {f : Nat} {a : AFn} {fn : Func} (h0 : Try.prog.funcs[f]? = some fn) (h1 : fn.body = some (bd fn)) (h2 : (fn.name == "runtime.NumGoroutine") = false) (h3 : fn.ntmps = a.ntmps) (h4 : mapO (trRes Try.prog) fn.results.toList = some a.res) (h5 : trC Try.prog M f (bd fn) = strip a.body) (h6 : ∀ x ∈ rfs (bd fn), Lok p q f x) : OkF p q f a :=
  ⟨fn, bd fn, ⟨h0, h1, h2⟩, h3, h4, h5, loops_of f _ h6⟩
def rf0 (fn : Func) : Array Nat × Code × Code := (rfs (bd fn)).getD 0 (#[], .skip, .skip)
theorem nil_all {p' : (Array Nat × Code × Code) → Prop} {l : List (Array Nat × Code × Code)} (h : l.isEmpty = true) : ∀ x ∈ l, p' x := by
  cases l with
  | nil => simp
  | cons a l => simp at h
theorem one_all {p' : (Array Nat × Code × Code) → Prop} {l : List (Array Nat × Code × Code)} (h : l.length = 1) (h1 : p' (l.getD 0 (#[], .skip, .skip))) : ∀ x ∈ l, p' x := by
  match l, h, h1 with
  | [a], _, h1 => intro x hx; simp at hx; subst hx; exact h1

theorem tb3 : Try.f3.body = some (bd Try.f3) := by kernel_rfl
theorem tn3 : (Try.f3.name == "runtime.NumGoroutine") = false := by kernel_rfl
theorem tr3 : mapO (trRes Try.prog) Try.f3.results.toList = some a3.res := by kernel_rfl
theorem tt3 : trC Try.prog M 3 (bd Try.f3) = strip a3.body := by kernel_rfl
theorem tl3 : (rfs (bd Try.f3)).isEmpty = true := by kernel_rfl
theorem ok3 : OkF p q 3 a3 := okF Try.func3 tb3 tn3 Try.ntmps3 tr3 tt3 (nil_all tl3)
theorem tb4 : Try.f4.body = some (bd Try.f4) := by kernel_rfl
theorem tn4 : (Try.f4.name == "runtime.NumGoroutine") = false := by kernel_rfl
theorem tr4 : mapO (trRes Try.prog) Try.f4.results.toList = some a4.res := by kernel_rfl
theorem tt4 : trC Try.prog M 4 (bd Try.f4) = strip a4.body := by kernel_rfl
theorem tl4 : (rfs (bd Try.f4)).isEmpty = true := by kernel_rfl
theorem ok4 : OkF p q 4 a4 := okF Try.func4 tb4 tn4 Try.ntmps4 tr4 tt4 (nil_all tl4)
theorem tb5 : Try.f5.body = some (bd Try.f5) := by kernel_rfl
theorem tn5 : (Try.f5.name == "runtime.NumGoroutine") = false := by kernel_rfl
theorem tr5 : mapO (trRes Try.prog) Try.f5.results.toList = some a5.res := by kernel_rfl
theorem tt5 : trC Try.prog M 5 (bd Try.f5) = strip a5.body := by kernel_rfl
theorem tl5 : (rfs (bd Try.f5)).isEmpty = true := by kernel_rfl
theorem ok5 : OkF p q 5 a5 := okF Try.func5 tb5 tn5 Try.ntmps5 tr5 tt5 (nil_all tl5)
theorem tb6 : Try.f6.body = some (bd Try.f6) := by kernel_rfl
theorem tn6 : (Try.f6.name == "runtime.NumGoroutine") = false := by kernel_rfl
theorem tr6 : mapO (trRes Try.prog) Try.f6.results.toList = some a6.res := by kernel_rfl
theorem tt6 : trC Try.prog M 6 (bd Try.f6) = strip a6.body := by kernel_rfl
theorem tl6 : (rfs (bd Try.f6)).isEmpty = true := by kernel_rfl
theorem ok6 : OkF p q 6 a6 := okF Try.func6 tb6 tn6 Try.ntmps6 tr6 tt6 (nil_all tl6)
theorem tb7 : Try.f7.body = some (bd Try.f7) := by kernel_rfl
theorem tn7 : (Try.f7.name == "runtime.NumGoroutine") = false := by kernel_rfl
theorem tr7 : mapO (trRes Try.prog) Try.f7.results.toList = some a7.res := by kernel_rfl
theorem tt7 : trC Try.prog M 7 (bd Try.f7) = strip a7.body := by kernel_rfl
theorem tl7 : (rfs (bd Try.f7)).isEmpty = true := by kernel_rfl
theorem ok7 : OkF p q 7 a7 := okF Try.func7 tb7 tn7 Try.ntmps7 tr7 tt7 (nil_all tl7)
theorem tb8 : Try.f8.body = some (bd Try.f8) := by kernel_rfl
theorem tn8 : (Try.f8.name == "runtime.NumGoroutine") = false := by kernel_rfl
theorem tr8 : mapO (trRes Try.prog) Try.f8.results.toList = some a8.res := by kernel_rfl
theorem tt8 : trC Try.prog M 8 (bd Try.f8) = strip a8.body := by kernel_rfl
theorem tl8 : (rfs (bd Try.f8)).isEmpty = true := by kernel_rfl
theorem ok8 : OkF p q 8 a8 := okF Try.func8 tb8 tn8 Try.ntmps8 tr8 tt8 (nil_all tl8)
theorem tb9 : Try.f9.body = some (bd Try.f9) := by kernel_rfl
theorem tn9 : (Try.f9.name == "runtime.NumGoroutine") = false := by kernel_rfl
theorem tr9 : mapO (trRes Try.prog) Try.f9.results.toList = some a9.res := by kernel_rfl
theorem tt9 : trC Try.prog M 9 (bd Try.f9) = strip a9.body := by kernel_rfl
theorem tl9 : (rfs (bd Try.f9)).isEmpty = true := by kernel_rfl
theorem ok9 : OkF p q 9 a9 := okF Try.func9 tb9 tn9 Try.ntmps9 tr9 tt9 (nil_all tl9)
theorem tb10 : Try.f10.body = some (bd Try.f10) := by kernel_rfl
theorem tn10 : (Try.f10.name == "runtime.NumGoroutine") = false := by kernel_rfl
theorem tr10 : mapO (trRes Try.prog) Try.f10.results.toList = some a10.res := by kernel_rfl
theorem tt10 : trC Try.prog M 10 (bd Try.f10) = strip a10.body := by kernel_rfl
theorem tl10 : (rfs (bd Try.f10)).isEmpty = true := by kernel_rfl
theorem ok10 : OkF p q 10 a10 := okF Try.func10 tb10 tn10 Try.ntmps10 tr10 tt10 (nil_all tl10)
theorem tb11 : Try.f11.body = some (bd Try.f11) := by kernel_rfl
theorem tn11 : (Try.f11.name == "runtime.NumGoroutine") = false := by kernel_rfl
theorem tr11 : mapO (trRes Try.prog) Try.f11.results.toList = some a11.res := by kernel_rfl
theorem tt11 : trC Try.prog M 11 (bd Try.f11) = strip a11.body := by kernel_rfl
theorem tl11 : (rfs (bd Try.f11)).length = 1 := by kernel_rfl
theorem tp11 : (T p q).loop (lidOf 11 (rf0 Try.f11).1) = some ((rf0 Try.f11).1.toList, c11_a0, c11_b0) := by kernel_rfl
theorem ta11 : trC Try.prog M 11 (rf0 Try.f11).2.1 = strip c11_a0 := by kernel_rfl
theorem tc11 : trC Try.prog M 11 (rf0 Try.f11).2.2 = strip c11_b0 := by kernel_rfl
theorem ok11 : OkF p q 11 a11 := okF Try.func11 tb11 tn11 Try.ntmps11 tr11 tt11 (one_all tl11 ⟨_, _, tp11, ta11, tc11⟩)
theorem tb12 : Try.f12.body = some (bd Try.f12) := by kernel_rfl
theorem tn12 : (Try.f12.name == "runtime.NumGoroutine") = false := by kernel_rfl
theorem tr12 : mapO (trRes Try.prog) Try.f12.results.toList = some a12.res := by kernel_rfl
theorem tt12 : trC Try.prog M 12 (bd Try.f12) = strip a12.body := by kernel_rfl
theorem tl12 : (rfs (bd Try.f12)).isEmpty = true := by kernel_rfl
theorem ok12 : OkF p q 12 a12 := okF Try.func12 tb12 tn12 Try.ntmps12 tr12 tt12 (nil_all tl12)
theorem tb13 : Try.f13.body = some (bd Try.f13) := by kernel_rfl
theorem tn13 : (Try.f13.name == "runtime.NumGoroutine") = false := by kernel_rfl
theorem tr13 : mapO (trRes Try.prog) Try.f13.results.toList = some a13.res := by kernel_rfl
theorem tt13 : trC Try.prog M 13 (bd Try.f13) = strip a13.body := by kernel_rfl
theorem tl13 : (rfs (bd Try.f13)).isEmpty = true := by kernel_rfl
theorem ok13 : OkF p q 13 a13 := okF Try.func13 tb13 tn13 Try.ntmps13 tr13 tt13 (nil_all tl13)
theorem tb14 : Try.f14.body = some (bd Try.f14) := by kernel_rfl
theorem tn14 : (Try.f14.name == "runtime.NumGoroutine") = false := by kernel_rfl
theorem tr14 : mapO (trRes Try.prog) Try.f14.results.toList = some a14.res := by kernel_rfl
theorem tt14 : trC Try.prog M 14 (bd Try.f14) = strip a14.body := by kernel_rfl
theorem tl14 : (rfs (bd Try.f14)).isEmpty = true := by kernel_rfl
theorem ok14 : OkF p q 14 a14 := okF Try.func14 tb14 tn14 Try.ntmps14 tr14 tt14 (nil_all tl14)
theorem tb15 : Try.f15.body = some (bd Try.f15) := by kernel_rfl
theorem tn15 : (Try.f15.name == "runtime.NumGoroutine") = false := by kernel_rfl
theorem tr15 : mapO (trRes Try.prog) Try.f15.results.toList = some a15.res := by kernel_rfl
theorem tt15 : trC Try.prog M 15 (bd Try.f15) = strip a15.body := by kernel_rfl
theorem tl15 : (rfs (bd Try.f15)).isEmpty = true := by kernel_rfl
theorem ok15 : OkF p q 15 a15 := okF Try.func15 tb15 tn15 Try.ntmps15 tr15 tt15 (nil_all tl15)
theorem tb16 : Try.f16.body = some (bd Try.f16) := by kernel_rfl
theorem tn16 : (Try.f16.name == "runtime.NumGoroutine") = false := by kernel_rfl
theorem tr16 : mapO (trRes Try.prog) Try.f16.results.toList = some a16.res := by kernel_rfl
theorem tt16 : trC Try.prog M 16 (bd Try.f16) = strip a16.body := by kernel_rfl
theorem tl16 : (rfs (bd Try.f16)).isEmpty = true := by kernel_rfl
theorem ok16 : OkF p q 16 a16 := okF Try.func16 tb16 tn16 Try.ntmps16 tr16 tt16 (nil_all tl16)
theorem tb17 : Try.f17.body = some (bd Try.f17) := by kernel_rfl
theorem tn17 : (Try.f17.name == "runtime.NumGoroutine") = false := by kernel_rfl
theorem tr17 : mapO (trRes Try.prog) Try.f17.results.toList = some a17.res := by kernel_rfl
theorem tt17 : trC Try.prog M 17 (bd Try.f17) = strip a17.body := by kernel_rfl
theorem tl17 : (rfs (bd Try.f17)).isEmpty = true := by kernel_rfl
theorem ok17 : OkF p q 17 a17 := okF Try.func17 tb17 tn17 Try.ntmps17 tr17 tt17 (nil_all tl17)
theorem tb18 : Try.f18.body = some (bd Try.f18) := by kernel_rfl
theorem tn18 : (Try.f18.name == "runtime.NumGoroutine") = false := by kernel_rfl
theorem tr18 : mapO (trRes Try.prog) Try.f18.results.toList = some a18.res := by kernel_rfl
theorem tt18 : trC Try.prog M 18 (bd Try.f18) = strip a18.body := by kernel_rfl
theorem tl18 : (rfs (bd Try.f18)).isEmpty = true := by kernel_rfl
theorem ok18 : OkF p q 18 a18 := okF Try.func18 tb18 tn18 Try.ntmps18 tr18 tt18 (nil_all tl18)
theorem tb19 : Try.f19.body = some (bd Try.f19) := by kernel_rfl
theorem tn19 : (Try.f19.name == "runtime.NumGoroutine") = false := by kernel_rfl
theorem tr19 : mapO (trRes Try.prog) Try.f19.results.toList = some a19.res := by kernel_rfl
theorem tt19 : trC Try.prog M 19 (bd Try.f19) = strip a19.body := by kernel_rfl
theorem tl19 : (rfs (bd Try.f19)).length = 1 := by kernel_rfl
theorem tp19 : (T p q).loop (lidOf 19 (rf0 Try.f19).1) = some ((rf0 Try.f19).1.toList, c19_a0, c19_b0) := by kernel_rfl
theorem ta19 : trC Try.prog M 19 (rf0 Try.f19).2.1 = strip c19_a0 := by kernel_rfl
theorem tc19 : trC Try.prog M 19 (rf0 Try.f19).2.2 = strip c19_b0 := by kernel_rfl
theorem ok19 : OkF p q 19 a19 := okF Try.func19 tb19 tn19 Try.ntmps19 tr19 tt19 (one_all tl19 ⟨_, _, tp19, ta19, tc19⟩)
theorem tb20 : Try.f20.body = some (bd Try.f20) := by kernel_rfl
theorem tn20 : (Try.f20.name == "runtime.NumGoroutine") = false := by kernel_rfl
theorem tr20 : mapO (trRes Try.prog) Try.f20.results.toList = some a20.res := by kernel_rfl
theorem tt20 : trC Try.prog M 20 (bd Try.f20) = strip a20.body := by kernel_rfl
theorem tl20 : (rfs (bd Try.f20)).isEmpty = true := by kernel_rfl
theorem ok20 : OkF p q 20 a20 := okF Try.func20 tb20 tn20 Try.ntmps20 tr20 tt20 (nil_all tl20)
theorem tb21 : Try.f21.body = some (bd Try.f21) := by kernel_rfl
theorem tn21 : (Try.f21.name == "runtime.NumGoroutine") = false := by kernel_rfl
theorem tr21 : mapO (trRes Try.prog) Try.f21.results.toList = some a21.res := by kernel_rfl
theorem tt21 : trC Try.prog M 21 (bd Try.f21) = strip a21.body := by kernel_rfl
theorem tl21 : (rfs (bd Try.f21)).isEmpty = true := by kernel_rfl
theorem ok21 : OkF p q 21 a21 := okF Try.func21 tb21 tn21 Try.ntmps21 tr21 tt21 (nil_all tl21)
theorem tb22 : Try.f22.body = some (bd Try.f22) := by kernel_rfl
theorem tn22 : (Try.f22.name == "runtime.NumGoroutine") = false := by kernel_rfl
theorem tr22 : mapO (trRes Try.prog) Try.f22.results.toList = some a22.res := by kernel_rfl
theorem tt22 : trC Try.prog M 22 (bd Try.f22) = strip a22.body := by kernel_rfl
theorem tl22 : (rfs (bd Try.f22)).isEmpty = true := by kernel_rfl
theorem ok22 : OkF p q 22 a22 := okF Try.func22 tb22 tn22 Try.ntmps22 tr22 tt22 (nil_all tl22)
theorem tb24 : Try.f24.body = some (bd Try.f24) := by kernel_rfl
theorem tn24 : (Try.f24.name == "runtime.NumGoroutine") = false := by kernel_rfl
theorem tr24 : mapO (trRes Try.prog) Try.f24.results.toList = some a24.res := by kernel_rfl
theorem tt24 : trC Try.prog M 24 (bd Try.f24) = strip a24.body := by kernel_rfl
theorem tl24 : (rfs (bd Try.f24)).isEmpty = true := by kernel_rfl
theorem ok24 : OkF p q 24 a24 := okF Try.func24 tb24 tn24 Try.ntmps24 tr24 tt24 (nil_all tl24)
theorem tb25 : Try.f25.body = some (bd Try.f25) := by kernel_rfl
theorem tn25 : (Try.f25.name == "runtime.NumGoroutine") = false := by kernel_rfl
theorem tr25 : mapO (trRes Try.prog) Try.f25.results.toList = some a25.res := by kernel_rfl
theorem tt25 : trC Try.prog M 25 (bd Try.f25) = strip a25.body := by kernel_rfl
theorem tl25 : (rfs (bd Try.f25)).isEmpty = true := by kernel_rfl
theorem ok25 : OkF p q 25 a25 := okF Try.func25 tb25 tn25 Try.ntmps25 tr25 tt25 (nil_all tl25)
theorem tb26 : Try.f26.body = some (bd Try.f26) := by kernel_rfl
theorem tn26 : (Try.f26.name == "runtime.NumGoroutine") = false := by kernel_rfl
theorem tr26 : mapO (trRes Try.prog) Try.f26.results.toList = some a26.res := by kernel_rfl
theorem tt26 : trC Try.prog M 26 (bd Try.f26) = strip a26.body := by kernel_rfl
theorem tl26 : (rfs (bd Try.f26)).isEmpty = true := by kernel_rfl
theorem ok26 : OkF p q 26 a26 := okF Try.func26 tb26 tn26 Try.ntmps26 tr26 tt26 (nil_all tl26)
theorem tb27 : Try.f27.body = some (bd Try.f27) := by kernel_rfl
theorem tn27 : (Try.f27.name == "runtime.NumGoroutine") = false := by kernel_rfl
theorem tr27 : mapO (trRes Try.prog) Try.f27.results.toList = some a27.res := by kernel_rfl
theorem tt27 : trC Try.prog M 27 (bd Try.f27) = strip a27.body := by kernel_rfl
theorem tl27 : (rfs (bd Try.f27)).isEmpty = true := by kernel_rfl
theorem ok27 : OkF p q 27 a27 := okF Try.func27 tb27 tn27 Try.ntmps27 tr27 tt27 (nil_all tl27)
theorem tb28 : Try.f28.body = some (bd Try.f28) := by kernel_rfl
theorem tn28 : (Try.f28.name == "runtime.NumGoroutine") = false := by kernel_rfl
theorem tr28 : mapO (trRes Try.prog) Try.f28.results.toList = some a28.res := by kernel_rfl
theorem tt28 : trC Try.prog M 28 (bd Try.f28) = strip a28.body := by kernel_rfl
theorem tl28 : (rfs (bd Try.f28)).isEmpty = true := by kernel_rfl
theorem ok28 : OkF p q 28 a28 := okF Try.func28 tb28 tn28 Try.ntmps28 tr28 tt28 (nil_all tl28)
theorem tb29 : Try.f29.body = some (bd Try.f29) := by kernel_rfl
theorem tn29 : (Try.f29.name == "runtime.NumGoroutine") = false := by kernel_rfl
theorem tr29 : mapO (trRes Try.prog) Try.f29.results.toList = some a29.res := by kernel_rfl
theorem tt29 : trC Try.prog M 29 (bd Try.f29) = strip a29.body := by kernel_rfl
theorem tl29 : (rfs (bd Try.f29)).isEmpty = true := by kernel_rfl
theorem ok29 : OkF p q 29 a29 := okF Try.func29 tb29 tn29 Try.ntmps29 tr29 tt29 (nil_all tl29)
theorem tb30 : Try.f30.body = some (bd Try.f30) := by kernel_rfl
theorem tn30 : (Try.f30.name == "runtime.NumGoroutine") = false := by kernel_rfl
theorem tr30 : mapO (trRes Try.prog) Try.f30.results.toList = some a30.res := by kernel_rfl
theorem tt30 : trC Try.prog M 30 (bd Try.f30) = strip a30.body := by kernel_rfl
theorem tl30 : (rfs (bd Try.f30)).isEmpty = true := by kernel_rfl
theorem ok30 : OkF p q 30 a30 := okF Try.func30 tb30 tn30 Try.ntmps30 tr30 tt30 (nil_all tl30)
theorem tb31 : Try.f31.body = some (bd Try.f31) := by kernel_rfl
theorem tn31 : (Try.f31.name == "runtime.NumGoroutine") = false := by kernel_rfl
theorem tr31 : mapO (trRes Try.prog) Try.f31.results.toList = some a31.res := by kernel_rfl
theorem tt31 : trC Try.prog M 31 (bd Try.f31) = strip a31.body := by kernel_rfl
theorem tl31 : (rfs (bd Try.f31)).isEmpty = true := by kernel_rfl
theorem ok31 : OkF p q 31 a31 := okF Try.func31 tb31 tn31 Try.ntmps31 tr31 tt31 (nil_all tl31)
theorem tb32 : Try.f32.body = some (bd Try.f32) := by kernel_rfl
theorem tn32 : (Try.f32.name == "runtime.NumGoroutine") = false := by kernel_rfl
theorem tr32 : mapO (trRes Try.prog) Try.f32.results.toList = some a32.res := by kernel_rfl
theorem tt32 : trC Try.prog M 32 (bd Try.f32) = strip a32.body := by kernel_rfl
theorem tl32 : (rfs (bd Try.f32)).isEmpty = true := by kernel_rfl
theorem ok32 : OkF p q 32 a32 := okF Try.func32 tb32 tn32 Try.ntmps32 tr32 tt32 (nil_all tl32)
theorem tb33 : Try.f33.body = some (bd Try.f33) := by kernel_rfl
theorem tn33 : (Try.f33.name == "runtime.NumGoroutine") = false := by kernel_rfl
theorem tr33 : mapO (trRes Try.prog) Try.f33.results.toList = some a33.res := by kernel_rfl
theorem tt33 : trC Try.prog M 33 (bd Try.f33) = strip a33.body := by kernel_rfl
theorem tl33 : (rfs (bd Try.f33)).isEmpty = true := by kernel_rfl
theorem ok33 : OkF p q 33 a33 := okF Try.func33 tb33 tn33 Try.ntmps33 tr33 tt33 (nil_all tl33)
theorem tb34 : Try.f34.body = some (bd Try.f34) := by kernel_rfl
theorem tn34 : (Try.f34.name == "runtime.NumGoroutine") = false := by kernel_rfl
theorem tr34 : mapO (trRes Try.prog) Try.f34.results.toList = some a34.res := by kernel_rfl
theorem tt34 : trC Try.prog M 34 (bd Try.f34) = strip a34.body := by kernel_rfl
theorem tl34 : (rfs (bd Try.f34)).isEmpty = true := by kernel_rfl
theorem ok34 : OkF p q 34 a34 := okF Try.func34 tb34 tn34 Try.ntmps34 tr34 tt34 (nil_all tl34)
theorem tb35 : Try.f35.body = some (bd Try.f35) := by kernel_rfl
theorem tn35 : (Try.f35.name == "runtime.NumGoroutine") = false := by kernel_rfl
theorem tr35 : mapO (trRes Try.prog) Try.f35.results.toList = some a35.res := by kernel_rfl
theorem tt35 : trC Try.prog M 35 (bd Try.f35) = strip a35.body := by kernel_rfl
theorem tl35 : (rfs (bd Try.f35)).isEmpty = true := by kernel_rfl
theorem ok35 : OkF p q 35 a35 := okF Try.func35 tb35 tn35 Try.ntmps35 tr35 tt35 (nil_all tl35)
theorem tb37 : Try.f37.body = some (bd Try.f37) := by kernel_rfl
theorem tn37 : (Try.f37.name == "runtime.NumGoroutine") = false := by kernel_rfl
theorem tr37 : mapO (trRes Try.prog) Try.f37.results.toList = some a37.res := by kernel_rfl
theorem tt37 : trC Try.prog M 37 (bd Try.f37) = strip a37.body := by kernel_rfl
theorem tl37 : (rfs (bd Try.f37)).isEmpty = true := by kernel_rfl
theorem ok37 : OkF p q 37 a37 := okF Try.func37 tb37 tn37 Try.ntmps37 tr37 tt37 (nil_all tl37)
theorem tb38 : Try.f38.body = some (bd Try.f38) := by kernel_rfl
theorem tn38 : (Try.f38.name == "runtime.NumGoroutine") = false := by kernel_rfl
theorem tr38 : mapO (trRes Try.prog) Try.f38.results.toList = some a38.res := by kernel_rfl
theorem tt38 : trC Try.prog M 38 (bd Try.f38) = strip a38.body := by kernel_rfl
theorem tl38 : (rfs (bd Try.f38)).length = 1 := by kernel_rfl
theorem tp38 : (T p q).loop (lidOf 38 (rf0 Try.f38).1) = some ((rf0 Try.f38).1.toList, c38_a0, c38_b0) := by kernel_rfl
theorem ta38 : trC Try.prog M 38 (rf0 Try.f38).2.1 = strip c38_a0 := by kernel_rfl
theorem tc38 : trC Try.prog M 38 (rf0 Try.f38).2.2 = strip c38_b0 := by kernel_rfl
theorem ok38 : OkF p q 38 a38 := okF Try.func38 tb38 tn38 Try.ntmps38 tr38 tt38 (one_all tl38 ⟨_, _, tp38, ta38, tc38⟩)
theorem tb39 : Try.f39.body = some (bd Try.f39) := by kernel_rfl
theorem tn39 : (Try.f39.name == "runtime.NumGoroutine") = false := by kernel_rfl
theorem tr39 : mapO (trRes Try.prog) Try.f39.results.toList = some a39.res := by kernel_rfl
theorem tt39 : trC Try.prog M 39 (bd Try.f39) = strip a39.body := by kernel_rfl
theorem tl39 : (rfs (bd Try.f39)).isEmpty = true := by kernel_rfl
theorem ok39 : OkF p q 39 a39 := okF Try.func39 tb39 tn39 Try.ntmps39 tr39 tt39 (nil_all tl39)
theorem tb42 : Try.f42.body = some (bd Try.f42) := by kernel_rfl
theorem tn42 : (Try.f42.name == "runtime.NumGoroutine") = false := by kernel_rfl
theorem tr42 : mapO (trRes Try.prog) Try.f42.results.toList = some a42.res := by kernel_rfl
theorem tt42 : trC Try.prog M 42 (bd Try.f42) = strip a42.body := by kernel_rfl
theorem tl42 : (rfs (bd Try.f42)).isEmpty = true := by kernel_rfl
theorem ok42 : OkF p q 42 a42 := okF Try.func42 tb42 tn42 Try.ntmps42 tr42 tt42 (nil_all tl42)
theorem tb43 : Try.f43.body = some (bd Try.f43) := by kernel_rfl
theorem tn43 : (Try.f43.name == "runtime.NumGoroutine") = false := by kernel_rfl
theorem tr43 : mapO (trRes Try.prog) Try.f43.results.toList = some a43.res := by kernel_rfl
theorem tt43 : trC Try.prog M 43 (bd Try.f43) = strip a43.body := by kernel_rfl
theorem tl43 : (rfs (bd Try.f43)).isEmpty = true := by kernel_rfl
theorem ok43 : OkF p q 43 a43 := okF Try.func43 tb43 tn43 Try.ntmps43 tr43 tt43 (nil_all tl43)
theorem tb44 : Try.f44.body = some (bd Try.f44) := by kernel_rfl
theorem tn44 : (Try.f44.name == "runtime.NumGoroutine") = false := by kernel_rfl
theorem tr44 : mapO (trRes Try.prog) Try.f44.results.toList = some a44.res := by kernel_rfl
theorem tt44 : trC Try.prog M 44 (bd Try.f44) = strip a44.body := by kernel_rfl
theorem tl44 : (rfs (bd Try.f44)).isEmpty = true := by kernel_rfl
theorem ok44 : OkF p q 44 a44 := okF Try.func44 tb44 tn44 Try.ntmps44 tr44 tt44 (nil_all tl44)
theorem tb45 : Try.f45.body = some (bd Try.f45) := by kernel_rfl
theorem tn45 : (Try.f45.name == "runtime.NumGoroutine") = false := by kernel_rfl
theorem tr45 : mapO (trRes Try.prog) Try.f45.results.toList = some a45.res := by kernel_rfl
theorem tt45 : trC Try.prog M 45 (bd Try.f45) = strip a45.body := by kernel_rfl
theorem tl45 : (rfs (bd Try.f45)).isEmpty = true := by kernel_rfl
theorem ok45 : OkF p q 45 a45 := okF Try.func45 tb45 tn45 Try.ntmps45 tr45 tt45 (nil_all tl45)
theorem tb46 : Try.f46.body = some (bd Try.f46) := by kernel_rfl
theorem tn46 : (Try.f46.name == "runtime.NumGoroutine") = false := by kernel_rfl
theorem tr46 : mapO (trRes Try.prog) Try.f46.results.toList = some a46.res := by kernel_rfl
theorem tt46 : trC Try.prog M 46 (bd Try.f46) = strip a46.body := by kernel_rfl
theorem tl46 : (rfs (bd Try.f46)).isEmpty = true := by kernel_rfl
theorem ok46 : OkF p q 46 a46 := okF Try.func46 tb46 tn46 Try.ntmps46 tr46 tt46 (nil_all tl46)
theorem allOk : AllOk p q 0 (fns p q) := ⟨ok3, ok4, ok5, ok6, ok7, ok8, ok9, ok10, ok11, ok12, ok13, ok14, ok15, ok16, ok17, ok18, ok19, ok20, ok21, ok22, ok24, ok25, ok26, ok27, ok28, ok29, ok30, ok31, ok32, ok33, ok34, ok35, ok37, ok38, ok39, ok42, ok43, ok44, ok45, ok46, trivial⟩
theorem pureOk : ∀ f, (Γ p q).M f = true → (Γ p q).T.pure f = true := by
  intro f hf
  have : f ∈ [3, 4, 5, 6, 8, 9, 10, 11, 13, 14, 15, 16, 17, 18, 19, 20, 24, 25, 26, 31, 32, 35, 42, 44, 45, 46] := by simpa [Γ, M] using hf
  simp only [List.mem_cons, List.not_mem_nil, or_false] at this
  rcases this with rfl | rfl | rfl | rfl | rfl | rfl | rfl | rfl | rfl | rfl | rfl | rfl | rfl | rfl | rfl | rfl | rfl | rfl | rfl | rfl | rfl | rfl | rfl | rfl | rfl | rfl <;> rfl
theorem mixedOk : Try.prog.follows .mixedOrders = true := by kernel_rfl
theorem tb23 : Try.f23.body = some (bd Try.f23) := by kernel_rfl
theorem tn23 : (Try.f23.name == "runtime.NumGoroutine") = false := by kernel_rfl
theorem tb36 : Try.f36.body = some (bd Try.f36) := by kernel_rfl
theorem tn36 : (Try.f36.name == "runtime.NumGoroutine") = false := by kernel_rfl
theorem prim_only (f : Nat) (pr : PF) (h23 : f ≠ 23) (h36 : f ≠ 36) (hf' : ((fns p q)[f]?).join = some (.prim pr)) : False := by
  by_cases hl : f < 47
  · have : ∀ f, f < 47 → f ≠ 23 → f ≠ 36 → ∀ pr, ((fns p q)[f]?).join ≠ some (.prim pr) := by
      intro f hl h1 h2 pr
      match f, hl with
      | 0, _ => exact (fun h => by cases h)
      | 1, _ => exact (fun h => by cases h)
      | 2, _ => exact (fun h => by cases h)
      | 3, _ => exact (fun h => by cases h)
      | 4, _ => exact (fun h => by cases h)
      | 5, _ => exact (fun h => by cases h)
      | 6, _ => exact (fun h => by cases h)
      | 7, _ => exact (fun h => by cases h)
      | 8, _ => exact (fun h => by cases h)
      | 9, _ => exact (fun h => by cases h)
      | 10, _ => exact (fun h => by cases h)
      | 11, _ => exact (fun h => by cases h)
      | 12, _ => exact (fun h => by cases h)
      | 13, _ => exact (fun h => by cases h)
      | 14, _ => exact (fun h => by cases h)
      | 15, _ => exact (fun h => by cases h)
      | 16, _ => exact (fun h => by cases h)
      | 17, _ => exact (fun h => by cases h)
      | 18, _ => exact (fun h => by cases h)
      | 19, _ => exact (fun h => by cases h)
      | 20, _ => exact (fun h => by cases h)
      | 21, _ => exact (fun h => by cases h)
      | 22, _ => exact (fun h => by cases h)
      | 23, _ => exact absurd rfl h1
      | 24, _ => exact (fun h => by cases h)
      | 25, _ => exact (fun h => by cases h)
      | 26, _ => exact (fun h => by cases h)
      | 27, _ => exact (fun h => by cases h)
      | 28, _ => exact (fun h => by cases h)
      | 29, _ => exact (fun h => by cases h)
      | 30, _ => exact (fun h => by cases h)
      | 31, _ => exact (fun h => by cases h)
      | 32, _ => exact (fun h => by cases h)
      | 33, _ => exact (fun h => by cases h)
      | 34, _ => exact (fun h => by cases h)
      | 35, _ => exact (fun h => by cases h)
      | 36, _ => exact absurd rfl h2
      | 37, _ => exact (fun h => by cases h)
      | 38, _ => exact (fun h => by cases h)
      | 39, _ => exact (fun h => by cases h)
      | 40, _ => exact (fun h => by cases h)
      | 41, _ => exact (fun h => by cases h)
      | 42, _ => exact (fun h => by cases h)
      | 43, _ => exact (fun h => by cases h)
      | 44, _ => exact (fun h => by cases h)
      | 45, _ => exact (fun h => by cases h)
      | 46, _ => exact (fun h => by cases h)
      | n + 47, hh => exact absurd hh (by omega)
    exact this f hl h23 h36 pr hf'
  · rw [List.getElem?_eq_none (by simp [fns]; omega)] at hf'
    cases hf'

theorem tabOk (h : ∀ f pr, (T p q).fn f = some (.prim pr) → ∀ args H v H' κ w vs wp n, pr wp args H = some (v, H') → HInv (Γ p q) κ H w → VL κ w args vs → CallsIn Fence.wide n Try.prog f vs.toArray w (Post (Γ p q) wp κ H w H' v)) : TabOk (Γ p q) where
  mixed := mixedOk
  M := pureOk
  code f a hf := by
    have := allOk_get (fns p q) 0 allOk f a hf
    rwa [Nat.zero_add] at this
  prim f pr hf := by
    refine ⟨?_, h f pr hf⟩
    have hf' : ((fns p q)[f]?).join = some (.prim pr) := hf
    by_cases h23 : f = 23
    · subst h23; exact ⟨_, _, Try.func23, tb23, tn23⟩
    · by_cases h36 : f = 36
      · subst h36; exact ⟨_, _, Try.func36, tb36, tn36⟩
      · exact (prim_only f pr h23 h36 hf').elim

end Go.Proofs.Tryt17A
end
