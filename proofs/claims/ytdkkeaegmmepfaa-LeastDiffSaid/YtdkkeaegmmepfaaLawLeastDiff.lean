/- LeastDiff: what Diff tells, done to the first table, makes the second one of it; for whatever routes. -/
import Derived.Test.YtdkkeaegmmepfaaLawLeastDiffWalk
import Derived.Test.YtdkkeaegmmepfaaOpen2
namespace Go.Proofs.Ytdkkeaegmmepfaa.lawLeastDiff
open Go.RowKit Go.Deep Go.ChangeShapes Go.WideShapes Go.ChangeAt

theorem walk (a0 : Option Addr) (n0 c0 : Nat) (X0 : Nat → Int) (a1 : Option Addr) (n1 c1 : Nat) (X1 : Nat → Int) (w : World) (r0 : Rd w a0 (n0 * 3) X0) (r1 : Rd w a1 (n1 * 3) X1) :
    Calls Try.prog 7 #[.slice a0 n0 c0, .slice a1 n1 c1] w fun e w' => e = .returned (.bool true) ∧ Below w.heap.size w w' :=
  (LeastDiff_all a0 n0 c0 X0 a1 n1 c1 X1 w r0 r1).mono fun _ _ h => ⟨h.1, h.2.below⟩

theorem own : ownKnob Try.prog.godebug = none := by kernel_rfl
theorem laidOut : laidOutB Try.prog = true := by kernel_rfl
theorem cells_int : Try.prog.cellsOf 3 = 1 := by kernel_rfl
theorem cells0 : Try.prog.cellsOf 33 = 3 := by kernel_rfl
theorem cells_sub0_0 : Try.prog.cellsOf 31 = 2 := by kernel_rfl
theorem allInt_sub0_0 : AllInt Try.prog 31 :=
  AllInt.ints Try.underlying31 cells_sub0_0 cells_int (AllInt.int Try.underlying3) fun i hi => by
    match i, hi with
    | 0, _ => exact ⟨_, rfl, rfl, rfl⟩
    | 1, _ => exact ⟨_, rfl, rfl, rfl⟩
theorem allInt0 : AllInt Try.prog 33 :=
  AllInt.fields Try.underlying33 cells0 fun i hi => by
    match i, hi with
    | 0, _ => exact ⟨0, _, 0, 2, 31, rfl, rfl, rfl, cells_sub0_0, by omega, by omega, allInt_sub0_0⟩
    | 1, _ => exact ⟨0, _, 0, 2, 31, rfl, rfl, rfl, cells_sub0_0, by omega, by omega, allInt_sub0_0⟩
    | 2, _ => exact ⟨1, _, 2, 1, 3, rfl, rfl, rfl, cells_int, by omega, by omega, AllInt.int Try.underlying3⟩
theorem cells1 : Try.prog.cellsOf 33 = 3 := by kernel_rfl
theorem cells_sub1_0 : Try.prog.cellsOf 31 = 2 := by kernel_rfl
theorem allInt_sub1_0 : AllInt Try.prog 31 :=
  AllInt.ints Try.underlying31 cells_sub1_0 cells_int (AllInt.int Try.underlying3) fun i hi => by
    match i, hi with
    | 0, _ => exact ⟨_, rfl, rfl, rfl⟩
    | 1, _ => exact ⟨_, rfl, rfl, rfl⟩
theorem allInt1 : AllInt Try.prog 33 :=
  AllInt.fields Try.underlying33 cells1 fun i hi => by
    match i, hi with
    | 0, _ => exact ⟨0, _, 0, 2, 31, rfl, rfl, rfl, cells_sub1_0, by omega, by omega, allInt_sub1_0⟩
    | 1, _ => exact ⟨0, _, 0, 2, 31, rfl, rfl, rfl, cells_sub1_0, by omega, by omega, allInt_sub1_0⟩
    | 2, _ => exact ⟨1, _, 2, 1, 3, rfl, rfl, rfl, cells_int, by omega, by omega, AllInt.int Try.underlying3⟩

set_option linter.unusedVariables false in
set_option maxRecDepth 100000 in
theorem lifted (os : Os) (started : os.Started) (H : Type) (enc : TypeId × Value → H) :
    ReturnsInHanded {} Try.checked os 7 .any (Rows.leastDiffSpec.pre6 enc Try.prog Try.f7 Rows.leastDiffRow.domain false) (Rows.leastDiffSpec.post enc Try.prog Try.f7 false true false false) := by
  refine returnsInHanded_of_change (C := Try.checked) own started (by kernel_rfl) Try.func7
    (ChangeSpec.witness6 (enc := enc) (C := Try.checked) false ⟨#[], #[.slice none 0 0, .slice none 0 0], []⟩ 8 (by kernel_rfl) (by kernel_rfl) (by kernel_rfl) (by kernel_rfl)) ?_
  intro W base args ds gs before hval0 hW hcnd _
  have hval : ∀ (j : Nat) t v, Try.f7.params[j]? = some t → args[j]? = some v → Value.okWide Try.prog W .any base t v := hval0
  have hW' := hW
  obtain ⟨p, q, hA0, hV, rfl, hfz, hnd⟩ := hW
  have hA : DataW.TrodAll enc Try.prog W 0 (fun _ => true) true Try.f7.params.toList args.toList ds p := hA0
  rw [Try.params7] at hA hval
  obtain ⟨v0, vs0, d0, ds0, p0, q0, hargs, rfl, rfl, h0, r0'⟩ := trodAll_cons hA
  obtain ⟨v1, vs1, d1, ds1, p1, q1, rfl, rfl, rfl, h1, r1'⟩ := trodAll_cons r0'
  obtain ⟨rfl, rfl, rfl⟩ := trodAll_nil r1'
  obtain rfl : args = #[v0, v1] := by cases args; simp_all
  obtain ⟨rfl, rfl⟩ := trodVars_none hV
  obtain ⟨a0, n0, c0, rfl⟩ := okWide_slice Try.underlying22 (hval 0 22 v0 rfl rfl)
  have k0 := h0
  have lt0 : ∀ x ∈ p0, x.block < W.heap.size := by obtain ⟨m, hm⟩ := k0; exact DataW.trod_lt m _ _ _ hm
  obtain ⟨X0, r0, f0⟩ := open_rd Try.underlying22 allInt0 cells0 (by omega) h0
  obtain ⟨a1, n1, c1, rfl⟩ := okWide_slice Try.underlying22 (hval 1 22 v1 rfl rfl)
  have k1 := h1
  have lt1 : ∀ x ∈ p1, x.block < W.heap.size := by obtain ⟨m, hm⟩ := k1; exact DataW.trod_lt m _ _ _ hm
  obtain ⟨X1, r1, f1⟩ := open_rd Try.underlying22 allInt1 cells1 (by omega) h1
  clear hA0 hval0
  refine (walk a0 n0 c0 X0 a1 n1 c1 X1 W r0 r1).mono fun e W' ⟨he, bel⟩ => ?_
  subst he
  exact ⟨_, rfl, _, _, _, [], _, [], hW', trodAll_mk1 (shut_bool Try.underlying4 _), (trodAll_cons_mk (Below.trod laidOut (by kernel_rfl) (of_decide_eq_true (by kernel_rfl)) k0 bel lt0) (trodAll_cons_mk (Below.trod laidOut (by kernel_rfl) (of_decide_eq_true (by kernel_rfl)) k1 bel lt1) trodAll_mk0)), rfl, bel.frame _, fun h => by cases h⟩

theorem proved : Rows.LeastDiffSaid :=
  OpenClaim.holds_of_wide 7 Try.f7 rfl rfl rfl rfl rfl rfl rfl ⟨rfl, rfl, rfl, rfl, rfl⟩ rfl rfl rfl rfl rfl (by kernel_rfl) Try.func7 (by kernel_rfl)
    (of_decide_eq_true (by kernel_rfl)) (by unfold Func.isWrapper; first | (rw [if_pos (by decide +kernel)]; kernel_rfl) | (rw [if_neg (by decide +kernel)]; exact ⟨rfl, rfl⟩))
    (fun os started H enc _ => lifted os started H enc)
#print axioms proved
end Go.Proofs.Ytdkkeaegmmepfaa.lawLeastDiff
