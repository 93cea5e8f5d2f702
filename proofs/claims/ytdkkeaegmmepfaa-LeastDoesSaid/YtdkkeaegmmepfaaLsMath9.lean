/- Changes done one behind the other, as loops go; no program. -/
import Derived.Test.YtdkkeaegmmepfaaLsMath
namespace Go.Proofs.Ytdkkeaegmmepfaa.Tb

/-- What comes behind a pass, and what is still to be done. -/
def fin (D : List Ch) (k : Nat) (R : List Rt × Int) : List Rt × Int := if k = 0 then (if R.2 ≠ 0 then R else pass false D R.1) else R
def rest (D : List Ch) (k : Nat) (M : List Rt) : List Rt × Int := if k = 0 then done D M else if k = 1 then pass false D M else (M, 0)
theorem rest_fin {D : List Ch} {k : Nat} (hk : k < 2) (M : List Rt) : rest D k M = fin D k (pass (decide (k = 0)) D M) := by
  rcases (by omega : k = 0 ∨ k = 1) with rfl | rfl
  · unfold rest fin done
    rw [if_pos rfl, if_pos rfl]
    rfl
  · unfold rest fin
    rw [if_neg (by omega), if_pos rfl, if_neg (by omega)]
    rfl
theorem fin_end {D : List Ch} {k : Nat} (hk : k < 2) (M : List Rt) : fin D k (M, 0) = rest D (k + 1) M := by
  rcases (by omega : k = 0 ∨ k = 1) with rfl | rfl
  · unfold rest fin
    rw [if_pos rfl, if_neg (by simp), if_neg (by omega), if_pos rfl]
  · unfold rest fin
    rw [if_neg (by omega), if_neg (by omega), if_neg (by omega)]
theorem fin_err {D : List Ch} {k : Nat} {M : List Rt} {e : Int} (he : e ≠ 0) : fin D k (M, e) = (M, e) := by
  unfold fin
  split
  · simp [he]
  · rfl
theorem drop_nthC {D : List Ch} {j : Nat} (hj : j < D.length) : D.drop j = nthC D j :: D.drop (j + 1) := by
  rw [List.drop_eq_getElem_cons hj]
  unfold nthC
  rw [List.getD_eq_getElem?_getD, List.getElem?_eq_getElem hj]
  rfl
theorem pass_skip {aw : Bool} {D : List Ch} {j : Nat} (hj : j < D.length) (h : (decide ((nthC D j).new = -2) != aw) = true) (M : List Rt) : pass aw (D.drop j) M = pass aw (D.drop (j + 1)) M := by
  rw [drop_nthC hj]
  show (if _ then _ else _) = _
  rw [if_pos h]
theorem pass_err {aw : Bool} {D : List Ch} {j : Nat} (hj : j < D.length) (h : (decide ((nthC D j).new = -2) != aw) = false) {M : List Rt} (he : (stepC M (nthC D j)).2 ≠ 0) : pass aw (D.drop j) M = stepC M (nthC D j) := by
  rw [drop_nthC hj]
  show (if _ then _ else _) = _
  rw [if_neg (by rw [h]; simp), if_pos he]
theorem pass_next {aw : Bool} {D : List Ch} {j : Nat} (hj : j < D.length) (h : (decide ((nthC D j).new = -2) != aw) = false) {M : List Rt} (he : (stepC M (nthC D j)).2 = 0) : pass aw (D.drop j) M = pass aw (D.drop (j + 1)) (stepC M (nthC D j)).1 := by
  rw [drop_nthC hj]
  show (if _ then _ else _) = _
  rw [if_neg (by rw [h]; simp), if_neg (by simpa using he)]
theorem step_no {M : List Rt} {c : Ch} (h : get M c.p ≠ c.old) : stepC M c = (M, 11) := by unfold stepC; rw [if_pos h]
theorem step_set {M : List Rt} {c : Ch} (h : get M c.p = c.old) : stepC M c = (setL M c.p c.new, setC M c.p c.new) := by unfold stepC; rw [if_neg (by simpa using h)]
theorem setL_no {M : List Rt} {p : Pf} {hop : Int} (h : setC M p hop ≠ 0) : setL M p hop = M := by unfold setL; rw [if_neg h]
end Go.Proofs.Ytdkkeaegmmepfaa.Tb
