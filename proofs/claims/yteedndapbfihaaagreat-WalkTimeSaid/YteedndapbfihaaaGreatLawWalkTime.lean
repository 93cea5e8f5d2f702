/- WalkTime: what was done to the post behind New does not change where letters go; but what it costs. For every input. -/
import Derived.Test.YteedndapbfihaaaGreatLawWalkTimeWalk
import Derived.Test.YteedndapbfihaaaGreatB40
namespace Go.Proofs.YteedndapbfihaaaGreat.lawWalkTime
open Go.RowKit Go.Deep Go.ChangeShapes Go.WideShapes Go.ChangeAt

theorem walk (a0 : Option Addr) (n0 c0 : Nat) (X0 : Nat → Int) (a1 : Option Addr) (n1 c1 : Nat) (X1 : Nat → Int) (a2 : Int) (a3 : Int) (w : World) (r0 : Rd w a0 (n0 * 6) X0) (r1 : Rd w a1 (n1 * 6) X1) :
    Calls Tryz.prog 8 #[.slice a0 n0 c0, .slice a1 n1 c1, .int .i64 a2, .int .i64 a3] w fun e w' => e = .returned (.bool true) ∧ Below w.heap.size w w' :=
  (WalkTime_all a0 n0 c0 X0 a1 n1 c1 X1 a2 a3 w r0 r1).mono fun _ _ h => ⟨h.1, h.2.below⟩

theorem own : ownKnob Tryz.prog.godebug = none := by kernel_rfl
theorem laidOut : laidOutB Tryz.prog = true := by kernel_rfl
theorem cells_int : Tryz.prog.cellsOf 3 = 1 := by kernel_rfl
theorem cells0 : Tryz.prog.cellsOf 59 = 6 := by kernel_rfl
theorem cells_sub0_4 : Tryz.prog.cellsOf 53 = 2 := by kernel_rfl
theorem allInt_sub0_4 : AllInt Tryz.prog 53 :=
  AllInt.ints Tryz.underlying53 cells_sub0_4 cells_int (AllInt.int Tryz.underlying3) fun i hi => by
    match i, hi with
    | 0, _ => exact ⟨_, rfl, rfl, rfl⟩
    | 1, _ => exact ⟨_, rfl, rfl, rfl⟩
theorem allInt0 : AllInt Tryz.prog 59 :=
  AllInt.fields Tryz.underlying59 cells0 fun i hi => by
    match i, hi with
    | 0, _ => exact ⟨0, _, 0, 1, 3, rfl, rfl, rfl, cells_int, by omega, by omega, AllInt.int Tryz.underlying3⟩
    | 1, _ => exact ⟨1, _, 1, 1, 3, rfl, rfl, rfl, cells_int, by omega, by omega, AllInt.int Tryz.underlying3⟩
    | 2, _ => exact ⟨2, _, 2, 1, 3, rfl, rfl, rfl, cells_int, by omega, by omega, AllInt.int Tryz.underlying3⟩
    | 3, _ => exact ⟨3, _, 3, 1, 3, rfl, rfl, rfl, cells_int, by omega, by omega, AllInt.int Tryz.underlying3⟩
    | 4, _ => exact ⟨4, _, 4, 2, 53, rfl, rfl, rfl, cells_sub0_4, by omega, by omega, allInt_sub0_4⟩
    | 5, _ => exact ⟨4, _, 4, 2, 53, rfl, rfl, rfl, cells_sub0_4, by omega, by omega, allInt_sub0_4⟩
theorem cells1 : Tryz.prog.cellsOf 59 = 6 := by kernel_rfl
theorem cells_sub1_4 : Tryz.prog.cellsOf 53 = 2 := by kernel_rfl
theorem allInt_sub1_4 : AllInt Tryz.prog 53 :=
  AllInt.ints Tryz.underlying53 cells_sub1_4 cells_int (AllInt.int Tryz.underlying3) fun i hi => by
    match i, hi with
    | 0, _ => exact ⟨_, rfl, rfl, rfl⟩
    | 1, _ => exact ⟨_, rfl, rfl, rfl⟩
theorem allInt1 : AllInt Tryz.prog 59 :=
  AllInt.fields Tryz.underlying59 cells1 fun i hi => by
    match i, hi with
    | 0, _ => exact ⟨0, _, 0, 1, 3, rfl, rfl, rfl, cells_int, by omega, by omega, AllInt.int Tryz.underlying3⟩
    | 1, _ => exact ⟨1, _, 1, 1, 3, rfl, rfl, rfl, cells_int, by omega, by omega, AllInt.int Tryz.underlying3⟩
    | 2, _ => exact ⟨2, _, 2, 1, 3, rfl, rfl, rfl, cells_int, by omega, by omega, AllInt.int Tryz.underlying3⟩
    | 3, _ => exact ⟨3, _, 3, 1, 3, rfl, rfl, rfl, cells_int, by omega, by omega, AllInt.int Tryz.underlying3⟩
    | 4, _ => exact ⟨4, _, 4, 2, 53, rfl, rfl, rfl, cells_sub1_4, by omega, by omega, allInt_sub1_4⟩
    | 5, _ => exact ⟨4, _, 4, 2, 53, rfl, rfl, rfl, cells_sub1_4, by omega, by omega, allInt_sub1_4⟩

set_option linter.unusedVariables false in
set_option maxRecDepth 100000 in
theorem lifted (os : Os) (started : os.Started) (H : Type) (enc : TypeId × Value → H) :
    ReturnsInHanded {} Tryz.checked os 8 .any (Rows.walkTimeSpec.pre6 enc Tryz.prog Tryz.f8 Rows.walkTimeRow.domain false) (Rows.walkTimeSpec.post enc Tryz.prog Tryz.f8 false true false false) := by
  refine returnsInHanded_of_change (C := Tryz.checked) own started (by kernel_rfl) Tryz.func8
    (ChangeSpec.witness6 (enc := enc) (C := Tryz.checked) false ⟨#[], #[.slice none 0 0, .slice none 0 0, .int .i64 0, .int .i64 0], []⟩ 8 (by kernel_rfl) (by kernel_rfl) (by kernel_rfl) (by kernel_rfl)) ?_
  intro W base args ds gs before hval0 hW hcnd _
  have hval : ∀ (j : Nat) t v, Tryz.f8.params[j]? = some t → args[j]? = some v → Value.okWide Tryz.prog W .any base t v := hval0
  have hW' := hW
  obtain ⟨p, q, hA0, hV, rfl, hfz, hnd⟩ := hW
  have hA : DataW.TrodAll enc Tryz.prog W 0 (fun _ => true) true Tryz.f8.params.toList args.toList ds p := hA0
  rw [Tryz.params8] at hA hval
  obtain ⟨v0, vs0, d0, ds0, p0, q0, hargs, rfl, rfl, h0, r0'⟩ := trodAll_cons hA
  obtain ⟨v1, vs1, d1, ds1, p1, q1, rfl, rfl, rfl, h1, r1'⟩ := trodAll_cons r0'
  obtain ⟨v2, vs2, d2, ds2, p2, q2, rfl, rfl, rfl, h2, r2'⟩ := trodAll_cons r1'
  obtain ⟨v3, vs3, d3, ds3, p3, q3, rfl, rfl, rfl, h3, r3'⟩ := trodAll_cons r2'
  obtain ⟨rfl, rfl, rfl⟩ := trodAll_nil r3'
  obtain rfl : args = #[v0, v1, v2, v3] := by cases args; simp_all
  obtain ⟨rfl, rfl⟩ := trodVars_none hV
  obtain ⟨a0, n0, c0, rfl⟩ := okWide_slice Tryz.underlying22 (hval 0 22 v0 rfl rfl)
  have k0 := h0
  have lt0 : ∀ x ∈ p0, x.block < W.heap.size := by obtain ⟨m, hm⟩ := k0; exact DataW.trod_lt m _ _ _ hm
  obtain ⟨X0, r0, f0⟩ := open_rd Tryz.underlying22 allInt0 cells0 (by omega) h0
  obtain ⟨a1, n1, c1, rfl⟩ := okWide_slice Tryz.underlying22 (hval 1 22 v1 rfl rfl)
  have k1 := h1
  have lt1 : ∀ x ∈ p1, x.block < W.heap.size := by obtain ⟨m, hm⟩ := k1; exact DataW.trod_lt m _ _ _ hm
  obtain ⟨X1, r1, f1⟩ := open_rd Tryz.underlying22 allInt1 cells1 (by omega) h1
  obtain ⟨a2, rfl, rfl, rfl, w2⟩ := open_int Tryz.underlying3 (hval 2 3 v2 rfl rfl) h2
  obtain ⟨a3, rfl, rfl, rfl, w3⟩ := open_int Tryz.underlying3 (hval 3 3 v3 rfl rfl) h3
  clear hA0 hval0
  refine (walk a0 n0 c0 X0 a1 n1 c1 X1 a2 a3 W r0 r1).mono fun e W' ⟨he, bel⟩ => ?_
  subst he
  exact ⟨_, rfl, _, _, _, [], _, [], hW', trodAll_mk1 (shut_bool Tryz.underlying4 _), (trodAll_cons_mk (Below.trod laidOut (by kernel_rfl) (of_decide_eq_true (by kernel_rfl)) k0 bel lt0) (trodAll_cons_mk (Below.trod laidOut (by kernel_rfl) (of_decide_eq_true (by kernel_rfl)) k1 bel lt1) (trodAll_cons_mk (shut_int Tryz.underlying3 w2) (trodAll_cons_mk (shut_int Tryz.underlying3 w3) trodAll_mk0)))), rfl, bel.frame _, fun h => by cases h⟩

theorem proved : Rows.WalkTimeSaid :=
  OpenClaim.holds_of_wide 8 Tryz.f8 rfl rfl rfl rfl rfl rfl rfl ⟨rfl, rfl, rfl, rfl, rfl⟩ rfl rfl rfl rfl rfl (by kernel_rfl) Tryz.func8 (by kernel_rfl)
    (of_decide_eq_true (by kernel_rfl)) (by unfold Func.isWrapper; first | (rw [if_pos (by decide +kernel)]; kernel_rfl) | (rw [if_neg (by decide +kernel)]; exact ⟨rfl, rfl⟩))
    (fun os started H enc _ => lifted os started H enc)
#print axioms proved
end Go.Proofs.YteedndapbfihaaaGreat.lawWalkTime
