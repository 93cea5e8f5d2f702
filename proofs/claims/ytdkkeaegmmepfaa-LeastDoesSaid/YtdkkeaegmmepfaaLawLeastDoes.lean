/- LeastDoes: every Of, Count, Diff and Do is as the document says; for whatever routes and changes. -/
import Derived.Test.YtdkkeaegmmepfaaLawLeastDoesWalk
import Derived.Test.YtdkkeaegmmepfaaOpen2
namespace Go.Proofs.Ytdkkeaegmmepfaa.lawLeastDoes
open Go.RowKit Go.Deep Go.ChangeShapes Go.WideShapes Go.ChangeAt

theorem walk (a0 : Option Addr) (n0 c0 : Nat) (X0 : Nat → Int) (a1 : Option Addr) (n1 c1 : Nat) (X1 : Nat → Int) (a2 : Option Addr) (n2 c2 : Nat) (X2 : Nat → Int) (w : World) (r0 : Rd w a0 (n0 * 3) X0) (r1 : Rd w a1 (n1 * 3) X1) (r2 : Rd w a2 (n2 * 4) X2) :
    Calls Try.prog 6 #[.slice a0 n0 c0, .slice a1 n1 c1, .slice a2 n2 c2] w fun e w' => e = .returned (.bool true) ∧ Below w.heap.size w w' :=
  (LeastDoes_all a0 n0 c0 X0 a1 n1 c1 X1 a2 n2 c2 X2 w r0 r1 r2).mono fun _ _ h => ⟨h.1, h.2.below⟩

theorem own : ownKnob Try.prog.godebug = none := by kernel_rfl
theorem laidOut : laidOutB Try.prog = true := by kernel_rfl
theorem cells_int : Try.prog.cellsOf 3 = 1 := by kernel_rfl
theorem cells0 : Try.prog.cellsOf 33 = 3 := by kernel_rfl
theorem cells_sub0_0 : Try.prog.cellsOf 31 = 2 := by kernel_rfl
theorem allInt_sub0_0 : AllInt Try.prog 31 :=
  AllInt.ints Try.underlying31 cells_sub0_0 cells_int (AllInt.int Try.underlying3) fun i hi => by
    match i, hi with
    | 0, _ => exact ⟨_, rfl, rfl, rfl⟩
    | 1, _ => exact ⟨_, rfl, rfl, rfl⟩
theorem allInt0 : AllInt Try.prog 33 :=
  AllInt.fields Try.underlying33 cells0 fun i hi => by
    match i, hi with
    | 0, _ => exact ⟨0, _, 0, 2, 31, rfl, rfl, rfl, cells_sub0_0, by omega, by omega, allInt_sub0_0⟩
    | 1, _ => exact ⟨0, _, 0, 2, 31, rfl, rfl, rfl, cells_sub0_0, by omega, by omega, allInt_sub0_0⟩
    | 2, _ => exact ⟨1, _, 2, 1, 3, rfl, rfl, rfl, cells_int, by omega, by omega, AllInt.int Try.underlying3⟩
theorem cells1 : Try.prog.cellsOf 33 = 3 := by kernel_rfl
theorem cells_sub1_0 : Try.prog.cellsOf 31 = 2 := by kernel_rfl
theorem allInt_sub1_0 : AllInt Try.prog 31 :=
  AllInt.ints Try.underlying31 cells_sub1_0 cells_int (AllInt.int Try.underlying3) fun i hi => by
    match i, hi with
    | 0, _ => exact ⟨_, rfl, rfl, rfl⟩
    | 1, _ => exact ⟨_, rfl, rfl, rfl⟩
theorem allInt1 : AllInt Try.prog 33 :=
  AllInt.fields Try.underlying33 cells1 fun i hi => by
    match i, hi with
    | 0, _ => exact ⟨0, _, 0, 2, 31, rfl, rfl, rfl, cells_sub1_0, by omega, by omega, allInt_sub1_0⟩
    | 1, _ => exact ⟨0, _, 0, 2, 31, rfl, rfl, rfl, cells_sub1_0, by omega, by omega, allInt_sub1_0⟩
    | 2, _ => exact ⟨1, _, 2, 1, 3, rfl, rfl, rfl, cells_int, by omega, by omega, AllInt.int Try.underlying3⟩
theorem cells2 : Try.prog.cellsOf 62 = 4 := by kernel_rfl
theorem cells_sub2_0 : Try.prog.cellsOf 31 = 2 := by kernel_rfl
theorem allInt_sub2_0 : AllInt Try.prog 31 :=
  AllInt.ints Try.underlying31 cells_sub2_0 cells_int (AllInt.int Try.underlying3) fun i hi => by
    match i, hi with
    | 0, _ => exact ⟨_, rfl, rfl, rfl⟩
    | 1, _ => exact ⟨_, rfl, rfl, rfl⟩
theorem allInt2 : AllInt Try.prog 62 :=
  AllInt.fields Try.underlying62 cells2 fun i hi => by
    match i, hi with
    | 0, _ => exact ⟨0, _, 0, 2, 31, rfl, rfl, rfl, cells_sub2_0, by omega, by omega, allInt_sub2_0⟩
    | 1, _ => exact ⟨0, _, 0, 2, 31, rfl, rfl, rfl, cells_sub2_0, by omega, by omega, allInt_sub2_0⟩
    | 2, _ => exact ⟨1, _, 2, 1, 3, rfl, rfl, rfl, cells_int, by omega, by omega, AllInt.int Try.underlying3⟩
    | 3, _ => exact ⟨2, _, 3, 1, 3, rfl, rfl, rfl, cells_int, by omega, by omega, AllInt.int Try.underlying3⟩

set_option linter.unusedVariables false in
set_option maxRecDepth 100000 in
theorem lifted (os : Os) (started : os.Started) (H : Type) (enc : TypeId × Value → H) :
    ReturnsInHanded {} Try.checked os 6 .any (Rows.leastDoesSpec.pre6 enc Try.prog Try.f6 Rows.leastDoesRow.domain false) (Rows.leastDoesSpec.post enc Try.prog Try.f6 false true false false) := by
  refine returnsInHanded_of_change (C := Try.checked) own started (by kernel_rfl) Try.func6
    (ChangeSpec.witness6 (enc := enc) (C := Try.checked) false ⟨#[], #[.slice none 0 0, .slice none 0 0, .slice none 0 0], []⟩ 8 (by kernel_rfl) (by kernel_rfl) (by kernel_rfl) (by kernel_rfl)) ?_
  intro W base args ds gs before hval0 hW hcnd _
  have hval : ∀ (j : Nat) t v, Try.f6.params[j]? = some t → args[j]? = some v → Value.okWide Try.prog W .any base t v := hval0
  have hW' := hW
  obtain ⟨p, q, hA0, hV, rfl, hfz, hnd⟩ := hW
  have hA : DataW.TrodAll enc Try.prog W 0 (fun _ => true) true Try.f6.params.toList args.toList ds p := hA0
  rw [Try.params6] at hA hval
  obtain ⟨v0, vs0, d0, ds0, p0, q0, hargs, rfl, rfl, h0, r0'⟩ := trodAll_cons hA
  obtain ⟨v1, vs1, d1, ds1, p1, q1, rfl, rfl, rfl, h1, r1'⟩ := trodAll_cons r0'
  obtain ⟨v2, vs2, d2, ds2, p2, q2, rfl, rfl, rfl, h2, r2'⟩ := trodAll_cons r1'
  obtain ⟨rfl, rfl, rfl⟩ := trodAll_nil r2'
  obtain rfl : args = #[v0, v1, v2] := by cases args; simp_all
  obtain ⟨rfl, rfl⟩ := trodVars_none hV
  obtain ⟨a0, n0, c0, rfl⟩ := okWide_slice Try.underlying22 (hval 0 22 v0 rfl rfl)
  have k0 := h0
  have lt0 : ∀ x ∈ p0, x.block < W.heap.size := by obtain ⟨m, hm⟩ := k0; exact DataW.trod_lt m _ _ _ hm
  obtain ⟨X0, r0, f0⟩ := open_rd Try.underlying22 allInt0 cells0 (by omega) h0
  obtain ⟨a1, n1, c1, rfl⟩ := okWide_slice Try.underlying22 (hval 1 22 v1 rfl rfl)
  have k1 := h1
  have lt1 : ∀ x ∈ p1, x.block < W.heap.size := by obtain ⟨m, hm⟩ := k1; exact DataW.trod_lt m _ _ _ hm
  obtain ⟨X1, r1, f1⟩ := open_rd Try.underlying22 allInt1 cells1 (by omega) h1
  obtain ⟨a2, n2, c2, rfl⟩ := okWide_slice Try.underlying52 (hval 2 52 v2 rfl rfl)
  have k2 := h2
  have lt2 : ∀ x ∈ p2, x.block < W.heap.size := by obtain ⟨m, hm⟩ := k2; exact DataW.trod_lt m _ _ _ hm
  obtain ⟨X2, r2, f2⟩ := open_rd Try.underlying52 allInt2 cells2 (by omega) h2
  clear hA0 hval0
  refine (walk a0 n0 c0 X0 a1 n1 c1 X1 a2 n2 c2 X2 W r0 r1 r2).mono fun e W' ⟨he, bel⟩ => ?_
  subst he
  exact ⟨_, rfl, _, _, _, [], _, [], hW', trodAll_mk1 (shut_bool Try.underlying4 _), (trodAll_cons_mk (Below.trod laidOut (by kernel_rfl) (of_decide_eq_true (by kernel_rfl)) k0 bel lt0) (trodAll_cons_mk (Below.trod laidOut (by kernel_rfl) (of_decide_eq_true (by kernel_rfl)) k1 bel lt1) (trodAll_cons_mk (Below.trod laidOut (by kernel_rfl) (of_decide_eq_true (by kernel_rfl)) k2 bel lt2) trodAll_mk0))), rfl, bel.frame _, fun h => by cases h⟩

theorem proved : Rows.LeastDoesSaid :=
  OpenClaim.holds_of_wide 6 Try.f6 rfl rfl rfl rfl rfl rfl rfl ⟨rfl, rfl, rfl, rfl, rfl⟩ rfl rfl rfl rfl rfl (by kernel_rfl) Try.func6 (by kernel_rfl)
    (of_decide_eq_true (by kernel_rfl)) (by unfold Func.isWrapper; first | (rw [if_pos (by decide +kernel)]; kernel_rfl) | (rw [if_neg (by decide +kernel)]; exact ⟨rfl, rfl⟩))
    (fun os started H enc _ => lifted os started H enc)
#print axioms proved
end Go.Proofs.Ytdkkeaegmmepfaa.lawLeastDoes
