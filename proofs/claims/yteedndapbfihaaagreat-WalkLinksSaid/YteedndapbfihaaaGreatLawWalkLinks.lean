/- WalkLinks: a letter goes from each node where it was to one with which that is linked; what it costs is what these links cost; and from each node on its way it goes on as it would have from there. For every input. -/
import Derived.Test.YteedndapbfihaaaGreatLawWalkLinksWalk
import Derived.Test.YteedndapbfihaaaGreatB40
namespace Go.Proofs.YteedndapbfihaaaGreat.lawWalkLinks
open Go.RowKit Go.Deep Go.ChangeShapes Go.WideShapes Go.ChangeAt

theorem walk (a0 : Option Addr) (n0 c0 : Nat) (X0 : Nat → Int) (a1 : Int) (a2 : Int) (w : World) (r0 : Rd w a0 (n0 * 6) X0) :
    Calls Tryz.prog 9 #[.slice a0 n0 c0, .int .i64 a1, .int .i64 a2] w fun e w' => e = .returned (.bool true) ∧ Below w.heap.size w w' :=
  (WalkLinks_all a0 n0 c0 X0 a1 a2 w r0).mono fun _ _ h => ⟨h.1, h.2.below⟩

theorem own : ownKnob Tryz.prog.godebug = none := by kernel_rfl
theorem laidOut : laidOutB Tryz.prog = true := by kernel_rfl
theorem cells_int : Tryz.prog.cellsOf 3 = 1 := by kernel_rfl
theorem cells0 : Tryz.prog.cellsOf 59 = 6 := by kernel_rfl
theorem cells_sub0_4 : Tryz.prog.cellsOf 53 = 2 := by kernel_rfl
theorem allInt_sub0_4 : AllInt Tryz.prog 53 :=
  AllInt.ints Tryz.underlying53 cells_sub0_4 cells_int (AllInt.int Tryz.underlying3) fun i hi => by
    match i, hi with
    | 0, _ => exact ⟨_, rfl, rfl, rfl⟩
    | 1, _ => exact ⟨_, rfl, rfl, rfl⟩
theorem allInt0 : AllInt Tryz.prog 59 :=
  AllInt.fields Tryz.underlying59 cells0 fun i hi => by
    match i, hi with
    | 0, _ => exact ⟨0, _, 0, 1, 3, rfl, rfl, rfl, cells_int, by omega, by omega, AllInt.int Tryz.underlying3⟩
    | 1, _ => exact ⟨1, _, 1, 1, 3, rfl, rfl, rfl, cells_int, by omega, by omega, AllInt.int Tryz.underlying3⟩
    | 2, _ => exact ⟨2, _, 2, 1, 3, rfl, rfl, rfl, cells_int, by omega, by omega, AllInt.int Tryz.underlying3⟩
    | 3, _ => exact ⟨3, _, 3, 1, 3, rfl, rfl, rfl, cells_int, by omega, by omega, AllInt.int Tryz.underlying3⟩
    | 4, _ => exact ⟨4, _, 4, 2, 53, rfl, rfl, rfl, cells_sub0_4, by omega, by omega, allInt_sub0_4⟩
    | 5, _ => exact ⟨4, _, 4, 2, 53, rfl, rfl, rfl, cells_sub0_4, by omega, by omega, allInt_sub0_4⟩

set_option linter.unusedVariables false in
set_option maxRecDepth 100000 in
theorem lifted (os : Os) (started : os.Started) (H : Type) (enc : TypeId × Value → H) :
    ReturnsInHanded {} Tryz.checked os 9 .any (Rows.walkLinksSpec.pre6 enc Tryz.prog Tryz.f9 Rows.walkLinksRow.domain false) (Rows.walkLinksSpec.post enc Tryz.prog Tryz.f9 false true false false) := by
  refine returnsInHanded_of_change (C := Tryz.checked) own started (by kernel_rfl) Tryz.func9
    (ChangeSpec.witness6 (enc := enc) (C := Tryz.checked) false ⟨#[], #[.slice none 0 0, .int .i64 0, .int .i64 0], []⟩ 8 (by kernel_rfl) (by kernel_rfl) (by kernel_rfl) (by kernel_rfl)) ?_
  intro W base args ds gs before hval0 hW hcnd _
  have hval : ∀ (j : Nat) t v, Tryz.f9.params[j]? = some t → args[j]? = some v → Value.okWide Tryz.prog W .any base t v := hval0
  have hW' := hW
  obtain ⟨p, q, hA0, hV, rfl, hfz, hnd⟩ := hW
  have hA : DataW.TrodAll enc Tryz.prog W 0 (fun _ => true) true Tryz.f9.params.toList args.toList ds p := hA0
  rw [Tryz.params9] at hA hval
  obtain ⟨v0, vs0, d0, ds0, p0, q0, hargs, rfl, rfl, h0, r0'⟩ := trodAll_cons hA
  obtain ⟨v1, vs1, d1, ds1, p1, q1, rfl, rfl, rfl, h1, r1'⟩ := trodAll_cons r0'
  obtain ⟨v2, vs2, d2, ds2, p2, q2, rfl, rfl, rfl, h2, r2'⟩ := trodAll_cons r1'
  obtain ⟨rfl, rfl, rfl⟩ := trodAll_nil r2'
  obtain rfl : args = #[v0, v1, v2] := by cases args; simp_all
  obtain ⟨rfl, rfl⟩ := trodVars_none hV
  obtain ⟨a0, n0, c0, rfl⟩ := okWide_slice Tryz.underlying22 (hval 0 22 v0 rfl rfl)
  have k0 := h0
  have lt0 : ∀ x ∈ p0, x.block < W.heap.size := by obtain ⟨m, hm⟩ := k0; exact DataW.trod_lt m _ _ _ hm
  obtain ⟨X0, r0, f0⟩ := open_rd Tryz.underlying22 allInt0 cells0 (by omega) h0
  obtain ⟨a1, rfl, rfl, rfl, w1⟩ := open_int Tryz.underlying3 (hval 1 3 v1 rfl rfl) h1
  obtain ⟨a2, rfl, rfl, rfl, w2⟩ := open_int Tryz.underlying3 (hval 2 3 v2 rfl rfl) h2
  clear hA0 hval0
  refine (walk a0 n0 c0 X0 a1 a2 W r0).mono fun e W' ⟨he, bel⟩ => ?_
  subst he
  exact ⟨_, rfl, _, _, _, [], _, [], hW', trodAll_mk1 (shut_bool Tryz.underlying4 _), (trodAll_cons_mk (Below.trod laidOut (by kernel_rfl) (of_decide_eq_true (by kernel_rfl)) k0 bel lt0) (trodAll_cons_mk (shut_int Tryz.underlying3 w1) (trodAll_cons_mk (shut_int Tryz.underlying3 w2) trodAll_mk0))), rfl, bel.frame _, fun h => by cases h⟩

theorem proved : Rows.WalkLinksSaid :=
  OpenClaim.holds_of_wide 9 Tryz.f9 rfl rfl rfl rfl rfl rfl rfl ⟨rfl, rfl, rfl, rfl, rfl⟩ rfl rfl rfl rfl rfl (by kernel_rfl) Tryz.func9 (by kernel_rfl)
    (of_decide_eq_true (by kernel_rfl)) (by unfold Func.isWrapper; first | (rw [if_pos (by decide +kernel)]; kernel_rfl) | (rw [if_neg (by decide +kernel)]; exact ⟨rfl, rfl⟩))
    (fun os started H enc _ => lifted os started H enc)
#print axioms proved
end Go.Proofs.YteedndapbfihaaaGreat.lawWalkLinks
