/- What a slice of structs of integers, handed in, is to the walk: a row of integers from its address on. -/
import Derived.Test.YtdkkeaegmmepfaaKit
import Derived.ProofKit
import Derived.OpenShut
import Derived.ShutString
import Derived.ChangeOld
import Derived.Deep.Slices
import Derived.Deep.Fields
import Derived.ChangeSame
namespace Go.Proofs.Ytdkkeaegmmepfaa
open Go.RowKit Go.Deep Go.ChangeShapes Go.WideShapes Go.ChangeAt

/-- A type all whose cells are integers. -/
def AllInt (P : Program) (e : TypeId) : Prop :=
  ∀ (H : Type) (enc : TypeId × Value → H) (w : World) (base : Nat) (spare : Nat → Bool) (held : Bool) (fuel : Nat) (cs : List Value) (x : DataW H × List MemPlace),
    DataW.trod enc P w base spare held fuel e cs = some x → ∀ (i : Nat) (v : Value), cs[i]? = some v → ∃ n : Int, v = .int .i64 n ∧ (Lit.int .i64 n).wf = true

theorem AllInt.int {P : Program} {e : TypeId} (h : P.underlying e = some (.int .i64)) : AllInt P e := by
  intro H enc w base spare held fuel cs x ht i v hv
  obtain ⟨n, rfl, _, hw⟩ := DataW.trod_int h ht
  match i, hv with
  | 0, hv => simp at hv; exact ⟨n, hv.symm, hw⟩

theorem AllInt.struct {P : Program} {e : TypeId} {fs : Array Field} (h : P.underlying e = some (.struct fs))
    (hc : ∀ i, i < P.cellsOf e → ∃ (j : Nat) (f : Field), fs[j]? = some f ∧ f.offset ≤ i ∧ i < f.offset + P.cellsOf f.type ∧ AllInt P f.type) : AllInt P e := by
  intro H enc w base spare held fuel cs x ht i v hv
  obtain ⟨xs, n, _, _, hlen, hxl, hf⟩ := DataW.trod_struct h ht
  have hi : i < P.cellsOf e := by rw [← hlen]; exact (List.getElem?_eq_some_iff.1 hv).1
  obtain ⟨j, f, hj, h1, h2, hA⟩ := hc i hi
  have hjl : j < fs.size := (Array.getElem?_eq_some_iff.1 hj).1
  have hx : xs[j]? = some (xs[j]'(by omega)) := List.getElem?_eq_getElem (by omega)
  refine hA H enc w base spare held n _ _ ((hf j f hj).trans hx) (i - f.offset) v ?_
  rw [List.getElem?_take, if_pos (by omega), List.getElem?_drop, show f.offset + (i - f.offset) = i from by omega]
  exact hv

/-- A struct of integers, one cell a field. -/
theorem AllInt.ints {P : Program} {e t3 : TypeId} {fs : Array Field} {n : Nat} (h : P.underlying e = some (.struct fs)) (hn : P.cellsOf e = n) (h3 : P.cellsOf t3 = 1) (hA : AllInt P t3)
    (hf : ∀ i, i < n → ∃ f, fs[i]? = some f ∧ f.offset = i ∧ f.type = t3) : AllInt P e := by
  refine AllInt.struct h ?_
  intro i hi
  rw [hn] at hi
  obtain ⟨f, h1, h2, h4⟩ := hf i hi
  exact ⟨i, f, h1, by omega, by rw [h2, h4, h3]; omega, by rw [h4]; exact hA⟩

/-- A struct, field by field. -/
theorem AllInt.fields {P : Program} {e : TypeId} {fs : Array Field} {n : Nat} (h : P.underlying e = some (.struct fs)) (hn : P.cellsOf e = n)
    (hc : ∀ i, i < n → ∃ (j : Nat) (f : Field) (o m : Nat) (t : TypeId), fs[j]? = some f ∧ f.offset = o ∧ f.type = t ∧ P.cellsOf t = m ∧ o ≤ i ∧ i < o + m ∧ AllInt P t) : AllInt P e := by
  refine AllInt.struct h ?_
  intro i hi
  rw [hn] at hi
  obtain ⟨j, f, o, m, t, h1, rfl, rfl, h4, h5, h6, h7⟩ := hc i hi
  exact ⟨j, f, h1, h5, by rw [h4]; exact h6, h7⟩

theorem open_rd {H : Type} {enc : TypeId × Value → H} {P : Program} {w : World} {base : Nat} {spare : Nat → Bool} {held : Bool} {t e : TypeId} {size : Nat} {a : Option Addr} {len cap : Nat} {d : DataW H} {p : List MemPlace}
    (ht : P.underlying t = some (.slice e)) (hA : AllInt P e) (hs : P.cellsOf e = size) (hsz : 0 < size) (h : DataW.Trod enc P w base spare held t (.slice a len cap) d p) :
    ∃ X, Rd w a (len * size) X ∧ ∀ k, k < len * size → (Lit.int .i64 (X k)).wf = true := by
  obtain ⟨fuel, hf⟩ := h
  rcases open_slice ht hf with ⟨hcs, _⟩ | ⟨x, l, c, m, n, D, Pl, hcs, _, _, _, hm, _, hel⟩
  · simp [Value.cells] at hcs
    obtain ⟨rfl, rfl, rfl⟩ := hcs
    exact ⟨fun _ => 0, fun k hk => absurd hk (by simp), fun k hk => absurd hk (by simp)⟩
  · simp [Value.cells] at hcs
    obtain ⟨rfl, rfl, rfl⟩ := hcs
    have hlm : len ≤ m := by rw [hm]; split <;> omega
    have key : ∀ k, k < len * size → ∃ y : Int, w.cell? (x.add k) = some (.int .i64 y) ∧ (Lit.int .i64 y).wf = true := by
      intro k hk
      have hk1 : k / size < len := Nat.div_lt_of_lt_mul (by rw [Nat.mul_comm]; exact hk)
      obtain ⟨cs', h1, h2⟩ := hel (k / size) (by omega)
      obtain ⟨_, hl, hat⟩ := World.cells?_some h1
      have hk2 : k % size < size := Nat.mod_lt _ hsz
      have h3 := hat (k % size) (by rw [hs]; exact hk2)
      have hv : cs'[k % size]? = some (cs'[k % size]'(by rw [hl, hs]; exact hk2)) := List.getElem?_eq_getElem _
      obtain ⟨y, hy, hw⟩ := hA H enc w base spare held n cs' _ h2 (k % size) _ hv
      refine ⟨y, ?_, hw⟩
      rw [hs, hv, hy, Go.Deep.add_add] at h3
      rw [← h3, Nat.mul_comm, Nat.div_add_mod]
    refine ⟨fun k => if h : k < len * size then (key k h).choose else 0, fun k hk => ?_, fun k hk => ?_⟩
    · have h0 := (key 0 (by omega)).choose_spec.1
      obtain ⟨b, off, spot⟩ := x
      have hspot : spot = none := by simpa [Addr.add] using World.cell?_spot h0
      subst hspot
      refine ⟨b, off, rfl, ?_⟩
      have h1 := (key k hk).choose_spec.1
      simp only [dif_pos hk]
      rw [← h1]
      congr 1
      unfold Addr.add
      split
      · rename_i e; rw [e]; rfl
      · rfl
    · simp only [dif_pos hk]; exact (key k hk).choose_spec.2

/-- The bounds of what fits. -/
theorem wf_lo {n : Int} (h : (Lit.int .i64 n).wf = true) : -9223372036854775808 ≤ n ∧ n ≤ 9223372036854775807 := by
  have := bounds_i64 h
  omega
end Go.Proofs.Ytdkkeaegmmepfaa
