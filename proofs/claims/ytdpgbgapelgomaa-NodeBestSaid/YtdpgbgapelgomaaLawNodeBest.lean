/- NodeBest returns true, whatever the number and the script: the best of each node never becomes worse; each way that it has is no better than the best; and what it was told of the way that it goes is better than the best. No condition. -/
import Derived.Test.YtdpgbgapelgomaaLawNodeBestWalk
import Derived.Test.YtdpgbgapelgomaaOpen2
namespace Go.Proofs.Ytdpgbgapelgomaa.lawNodeBest
open Go.RowKit Go.Deep Go.ChangeShapes Go.WideShapes Go.ChangeAt

theorem walk (a0 : Int) (a1 : Option Addr) (n1 c1 : Nat) (X1 : Nat → Int) (w : World) (r1 : Rd w a1 (n1 * 7) X1) :
    Calls Try.prog 8 #[.int .i64 a0, .slice a1 n1 c1] w fun e w' => e = .returned (.bool true) ∧ Below w.heap.size w w' :=
  (NodeBest_all a0 a1 n1 c1 X1 w r1).mono fun _ _ h => ⟨h.1, h.2.below⟩

theorem own : ownKnob Try.prog.godebug = none := by kernel_rfl
theorem laidOut : laidOutB Try.prog = true := by kernel_rfl
theorem cells_int : Try.prog.cellsOf 3 = 1 := by kernel_rfl
theorem cells1 : Try.prog.cellsOf 51 = 7 := by kernel_rfl
theorem cells_sub1_2 : Try.prog.cellsOf 49 = 5 := by kernel_rfl
theorem allInt_sub1_2 : AllInt Try.prog 49 :=
  AllInt.ints Try.underlying49 cells_sub1_2 cells_int (AllInt.int Try.underlying3) fun i hi => by
    match i, hi with
    | 0, _ => exact ⟨_, rfl, rfl, rfl⟩
    | 1, _ => exact ⟨_, rfl, rfl, rfl⟩
    | 2, _ => exact ⟨_, rfl, rfl, rfl⟩
    | 3, _ => exact ⟨_, rfl, rfl, rfl⟩
    | 4, _ => exact ⟨_, rfl, rfl, rfl⟩
theorem allInt1 : AllInt Try.prog 51 :=
  AllInt.fields Try.underlying51 cells1 fun i hi => by
    match i, hi with
    | 0, _ => exact ⟨0, _, 0, 1, 3, rfl, rfl, rfl, cells_int, by omega, by omega, AllInt.int Try.underlying3⟩
    | 1, _ => exact ⟨1, _, 1, 1, 3, rfl, rfl, rfl, cells_int, by omega, by omega, AllInt.int Try.underlying3⟩
    | 2, _ => exact ⟨2, _, 2, 5, 49, rfl, rfl, rfl, cells_sub1_2, by omega, by omega, allInt_sub1_2⟩
    | 3, _ => exact ⟨2, _, 2, 5, 49, rfl, rfl, rfl, cells_sub1_2, by omega, by omega, allInt_sub1_2⟩
    | 4, _ => exact ⟨2, _, 2, 5, 49, rfl, rfl, rfl, cells_sub1_2, by omega, by omega, allInt_sub1_2⟩
    | 5, _ => exact ⟨2, _, 2, 5, 49, rfl, rfl, rfl, cells_sub1_2, by omega, by omega, allInt_sub1_2⟩
    | 6, _ => exact ⟨2, _, 2, 5, 49, rfl, rfl, rfl, cells_sub1_2, by omega, by omega, allInt_sub1_2⟩

set_option linter.unusedVariables false in
set_option maxRecDepth 100000 in
theorem lifted (os : Os) (started : os.Started) (H : Type) (enc : TypeId × Value → H) :
    ReturnsInHanded {} Try.checked os 8 .any (Rows.nodeBestSpec.pre6 enc Try.prog Try.f8 Rows.nodeBestRow.domain false) (Rows.nodeBestSpec.post enc Try.prog Try.f8 false true false false) := by
  refine returnsInHanded_of_change (C := Try.checked) own started (by kernel_rfl) Try.func8
    (ChangeSpec.witness6 (enc := enc) (C := Try.checked) false ⟨#[], #[.int .i64 0, .slice none 0 0], []⟩ 8 (by kernel_rfl) (by kernel_rfl) (by kernel_rfl) (by kernel_rfl)) ?_
  intro W base args ds gs before hval0 hW hcnd _
  have hval : ∀ (j : Nat) t v, Try.f8.params[j]? = some t → args[j]? = some v → Value.okWide Try.prog W .any base t v := hval0
  have hW' := hW
  obtain ⟨p, q, hA0, hV, rfl, hfz, hnd⟩ := hW
  have hA : DataW.TrodAll enc Try.prog W 0 (fun _ => true) true Try.f8.params.toList args.toList ds p := hA0
  rw [Try.params8] at hA hval
  obtain ⟨v0, vs0, d0, ds0, p0, q0, hargs, rfl, rfl, h0, r0'⟩ := trodAll_cons hA
  obtain ⟨v1, vs1, d1, ds1, p1, q1, rfl, rfl, rfl, h1, r1'⟩ := trodAll_cons r0'
  obtain ⟨rfl, rfl, rfl⟩ := trodAll_nil r1'
  obtain rfl : args = #[v0, v1] := by cases args; simp_all
  obtain ⟨rfl, rfl⟩ := trodVars_none hV
  obtain ⟨a0, rfl, rfl, rfl, w0⟩ := open_int Try.underlying3 (hval 0 3 v0 rfl rfl) h0
  obtain ⟨a1, n1, c1, rfl⟩ := okWide_slice Try.underlying42 (hval 1 42 v1 rfl rfl)
  have k1 := h1
  have lt1 : ∀ x ∈ p1, x.block < W.heap.size := by obtain ⟨m, hm⟩ := k1; exact DataW.trod_lt m _ _ _ hm
  obtain ⟨X1, r1, f1⟩ := open_rd Try.underlying42 allInt1 cells1 (by omega) h1
  clear hA0 hval0
  refine (walk a0 a1 n1 c1 X1 W r1).mono fun e W' ⟨he, bel⟩ => ?_
  subst he
  exact ⟨_, rfl, _, _, _, [], _, [], hW', trodAll_mk1 (shut_bool Try.underlying4 _), (trodAll_cons_mk (shut_int Try.underlying3 w0) (trodAll_cons_mk (Below.trod laidOut (by kernel_rfl) (of_decide_eq_true (by kernel_rfl)) k1 bel lt1) trodAll_mk0)), rfl, bel.frame _, fun h => by cases h⟩

theorem proved : Rows.NodeBestSaid :=
  OpenClaim.holds_of_wide 8 Try.f8 rfl rfl rfl rfl rfl rfl rfl ⟨rfl, rfl, rfl, rfl, rfl⟩ rfl rfl rfl rfl rfl (by kernel_rfl) Try.func8 (by kernel_rfl)
    (of_decide_eq_true (by kernel_rfl)) (by unfold Func.isWrapper; first | (rw [if_pos (by decide +kernel)]; kernel_rfl) | (rw [if_neg (by decide +kernel)]; exact ⟨rfl, rfl⟩))
    (fun os started H enc _ => lifted os started H enc)
#print axioms proved
end Go.Proofs.Ytdpgbgapelgomaa.lawNodeBest
