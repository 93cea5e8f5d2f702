/- NodeLearns returns true, whatever the number, the script and the cost: a node that knew nothing, and is told all by another one with which it is linked, has a way to each node to which that one has one, that is not too far, by it, longer by the cost of the link; and none else. No condition. -/
import Derived.Test.YtdpgbgapelgomaaLawNodeLearnsWalk
import Derived.Test.YtdpgbgapelgomaaOpen2
namespace Go.Proofs.Ytdpgbgapelgomaa.lawNodeLearns
open Go.RowKit Go.Deep Go.ChangeShapes Go.WideShapes Go.ChangeAt

theorem walk (a0 : Int) (a1 : Option Addr) (n1 c1 : Nat) (X1 : Nat → Int) (a2 : Int) (w : World) (r1 : Rd w a1 (n1 * 7) X1) :
    Calls Try.prog 6 #[.int .i64 a0, .slice a1 n1 c1, .int .i64 a2] w fun e w' => e = .returned (.bool true) ∧ Below w.heap.size w w' :=
  (NodeLearns_all a0 a1 n1 c1 X1 a2 w r1).mono fun _ _ h => ⟨h.1, h.2.below⟩

theorem own : ownKnob Try.prog.godebug = none := by kernel_rfl
theorem laidOut : laidOutB Try.prog = true := by kernel_rfl
theorem cells_int : Try.prog.cellsOf 3 = 1 := by kernel_rfl
theorem cells1 : Try.prog.cellsOf 51 = 7 := by kernel_rfl
theorem cells_sub1_2 : Try.prog.cellsOf 49 = 5 := by kernel_rfl
theorem allInt_sub1_2 : AllInt Try.prog 49 :=
  AllInt.ints Try.underlying49 cells_sub1_2 cells_int (AllInt.int Try.underlying3) fun i hi => by
    match i, hi with
    | 0, _ => exact ⟨_, rfl, rfl, rfl⟩
    | 1, _ => exact ⟨_, rfl, rfl, rfl⟩
    | 2, _ => exact ⟨_, rfl, rfl, rfl⟩
    | 3, _ => exact ⟨_, rfl, rfl, rfl⟩
    | 4, _ => exact ⟨_, rfl, rfl, rfl⟩
theorem allInt1 : AllInt Try.prog 51 :=
  AllInt.fields Try.underlying51 cells1 fun i hi => by
    match i, hi with
    | 0, _ => exact ⟨0, _, 0, 1, 3, rfl, rfl, rfl, cells_int, by omega, by omega, AllInt.int Try.underlying3⟩
    | 1, _ => exact ⟨1, _, 1, 1, 3, rfl, rfl, rfl, cells_int, by omega, by omega, AllInt.int Try.underlying3⟩
    | 2, _ => exact ⟨2, _, 2, 5, 49, rfl, rfl, rfl, cells_sub1_2, by omega, by omega, allInt_sub1_2⟩
    | 3, _ => exact ⟨2, _, 2, 5, 49, rfl, rfl, rfl, cells_sub1_2, by omega, by omega, allInt_sub1_2⟩
    | 4, _ => exact ⟨2, _, 2, 5, 49, rfl, rfl, rfl, cells_sub1_2, by omega, by omega, allInt_sub1_2⟩
    | 5, _ => exact ⟨2, _, 2, 5, 49, rfl, rfl, rfl, cells_sub1_2, by omega, by omega, allInt_sub1_2⟩
    | 6, _ => exact ⟨2, _, 2, 5, 49, rfl, rfl, rfl, cells_sub1_2, by omega, by omega, allInt_sub1_2⟩

set_option linter.unusedVariables false in
set_option maxRecDepth 100000 in
theorem lifted (os : Os) (started : os.Started) (H : Type) (enc : TypeId × Value → H) :
    ReturnsInHanded {} Try.checked os 6 .any (Rows.nodeLearnsSpec.pre6 enc Try.prog Try.f6 Rows.nodeLearnsRow.domain false) (Rows.nodeLearnsSpec.post enc Try.prog Try.f6 false true false false) := by
  refine returnsInHanded_of_change (C := Try.checked) own started (by kernel_rfl) Try.func6
    (ChangeSpec.witness6 (enc := enc) (C := Try.checked) false ⟨#[], #[.int .i64 0, .slice none 0 0, .int .i64 0], []⟩ 8 (by kernel_rfl) (by kernel_rfl) (by kernel_rfl) (by kernel_rfl)) ?_
  intro W base args ds gs before hval0 hW hcnd _
  have hval : ∀ (j : Nat) t v, Try.f6.params[j]? = some t → args[j]? = some v → Value.okWide Try.prog W .any base t v := hval0
  have hW' := hW
  obtain ⟨p, q, hA0, hV, rfl, hfz, hnd⟩ := hW
  have hA : DataW.TrodAll enc Try.prog W 0 (fun _ => true) true Try.f6.params.toList args.toList ds p := hA0
  rw [Try.params6] at hA hval
  obtain ⟨v0, vs0, d0, ds0, p0, q0, hargs, rfl, rfl, h0, r0'⟩ := trodAll_cons hA
  obtain ⟨v1, vs1, d1, ds1, p1, q1, rfl, rfl, rfl, h1, r1'⟩ := trodAll_cons r0'
  obtain ⟨v2, vs2, d2, ds2, p2, q2, rfl, rfl, rfl, h2, r2'⟩ := trodAll_cons r1'
  obtain ⟨rfl, rfl, rfl⟩ := trodAll_nil r2'
  obtain rfl : args = #[v0, v1, v2] := by cases args; simp_all
  obtain ⟨rfl, rfl⟩ := trodVars_none hV
  obtain ⟨a0, rfl, rfl, rfl, w0⟩ := open_int Try.underlying3 (hval 0 3 v0 rfl rfl) h0
  obtain ⟨a1, n1, c1, rfl⟩ := okWide_slice Try.underlying42 (hval 1 42 v1 rfl rfl)
  have k1 := h1
  have lt1 : ∀ x ∈ p1, x.block < W.heap.size := by obtain ⟨m, hm⟩ := k1; exact DataW.trod_lt m _ _ _ hm
  obtain ⟨X1, r1, f1⟩ := open_rd Try.underlying42 allInt1 cells1 (by omega) h1
  obtain ⟨a2, rfl, rfl, rfl, w2⟩ := open_int Try.underlying3 (hval 2 3 v2 rfl rfl) h2
  clear hA0 hval0
  refine (walk a0 a1 n1 c1 X1 a2 W r1).mono fun e W' ⟨he, bel⟩ => ?_
  subst he
  exact ⟨_, rfl, _, _, _, [], _, [], hW', trodAll_mk1 (shut_bool Try.underlying4 _), (trodAll_cons_mk (shut_int Try.underlying3 w0) (trodAll_cons_mk (Below.trod laidOut (by kernel_rfl) (of_decide_eq_true (by kernel_rfl)) k1 bel lt1) (trodAll_cons_mk (shut_int Try.underlying3 w2) trodAll_mk0))), rfl, bel.frame _, fun h => by cases h⟩

theorem proved : Rows.NodeLearnsSaid :=
  OpenClaim.holds_of_wide 6 Try.f6 rfl rfl rfl rfl rfl rfl rfl ⟨rfl, rfl, rfl, rfl, rfl⟩ rfl rfl rfl rfl rfl (by kernel_rfl) Try.func6 (by kernel_rfl)
    (of_decide_eq_true (by kernel_rfl)) (by unfold Func.isWrapper; first | (rw [if_pos (by decide +kernel)]; kernel_rfl) | (rw [if_neg (by decide +kernel)]; exact ⟨rfl, rfl⟩))
    (fun os started H enc _ => lifted os started H enc)
#print axioms proved
end Go.Proofs.Ytdpgbgapelgomaa.lawNodeLearns
