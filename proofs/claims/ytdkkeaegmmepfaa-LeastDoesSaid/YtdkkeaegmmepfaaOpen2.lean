/- A struct of integers, handed in by value. -/
import Derived.Test.YtdkkeaegmmepfaaOpen
namespace Go.Proofs.Ytdkkeaegmmepfaa
open Go.RowKit Go.Deep Go.ChangeShapes Go.WideShapes Go.ChangeAt

theorem open_ints {H : Type} {enc : TypeId × Value → H} {P : Program} {w : World} {base : Nat} {spare : Nat → Bool} {held : Bool} {r : Reach} {b0 : Nat} {t : TypeId} {fs : Array Field} {n : Nat} {v : Value} {d : DataW H} {p : List MemPlace}
    (hs : P.underlying t = some (.struct fs)) (hA : AllInt P t) (hC : P.cellsOf t = n) (hv : Value.okWide P w r b0 t v) (h : DataW.Trod enc P w base spare held t v d p) :
    ∃ f : Nat → Int, v = .agg ((List.range n).map fun i => Value.int .i64 (f i)).toArray ∧ ∀ i, i < n → (Lit.int .i64 (f i)).wf = true := by
  obtain ⟨cs, rfl, hsz⟩ := okWide_struct hs hv
  obtain ⟨fuel, hf⟩ := h
  have key : ∀ i, i < n → ∃ y : Int, cs[i]? = some (.int .i64 y) ∧ (Lit.int .i64 y).wf = true := by
    intro i hi
    have hi' : i < cs.size := by rw [hsz, hC]; exact hi
    have h1 : (Value.agg cs).cells.toList[i]? = some cs[i] := by simp [Value.cells]
    obtain ⟨y, hy, hw⟩ := hA H enc w base spare held fuel _ _ hf i _ h1
    exact ⟨y, by rw [Array.getElem?_eq_getElem hi', hy], hw⟩
  refine ⟨fun i => if h : i < n then (key i h).choose else 0, ?_, fun i hi => ?_⟩
  · congr 1
    apply Array.ext
    · simp [hsz, hC]
    · intro i h1 h2
      have hi : i < n := by rw [hsz, hC] at h1; exact h1
      have e := Option.some.inj ((Array.getElem?_eq_getElem h1).symm.trans (key i hi).choose_spec.1)
      simp [hi]
      exact e
  · simp only [dif_pos hi]
    exact (key i hi).choose_spec.2
end Go.Proofs.Ytdkkeaegmmepfaa
