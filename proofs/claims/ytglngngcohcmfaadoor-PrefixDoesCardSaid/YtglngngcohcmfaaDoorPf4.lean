/- Walks: Last of the document's own answer. -/
import Derived.Test.YtglngngcohcmfaaDoorPf3
namespace Go.Proofs.YtglngngcohcmfaaDoor
open Go.RowKit Go.Deep

def LaRel (p : Tb.Pf) (b : Nat) (w : World) (i : Value) (wr : World) : Prop :=
  ∃ k : Int, -1 ≤ k ∧ k ≤ 255 ∧ i = .int .i64 k ∧ (∀ j : Int, k < j → ¬ Tb.has p j) ∧ wr.cell? ⟨b, 0, none⟩ = some (.int .i64 p.len) ∧ wr.cell? ⟨b, 1, none⟩ = some (.int .i64 p.bits) ∧ Fr NoB w wr
set_option maxHeartbeats 2000000 in
theorem RLast_any (l b : Int) (w : World) :
    Calls Tryd.prog 23 #[.agg #[.int .i64 l, .int .i64 b]] w (IntFr (Tb.lst ⟨l, b⟩) w) := by
  go_enter Tryd.func23, Tryd.ntmps23
  go_wp2
  go_loopw [3] (fun i wr => LaRel ⟨l, b⟩ w.heap.size w i wr) (fun i _ => (intOf i + 1).toNat)
  case atStart => exact ⟨255, by omega, by omega, rfl, fun j hj h => by have := Tb.has_range h; omega, box0 .., box1 .., (Fr.refl _ _).alloc _⟩
  case round =>
    obtain ⟨k, hk1, hk2, rfl, hno, c0, c1, hf⟩ := hrel
    dsimp only at c0 c1
    have HF := Lib.hid hf; clear hf; have HN := Lib.hid hno; clear hno
    by_cases hkk : 0 ≤ k
    · by_cases hh : Tb.has ⟨l, b⟩ k
      · have hd := decide_eq_true hh
        have he : Tb.lst ⟨l, b⟩ = k := by
          have h2 := hh.2.2
          by_cases e : Tb.lst ⟨l, b⟩ = k
          · exact e
          · exfalso
            exact HN.out (Tb.lst ⟨l, b⟩) (by omega) (Tb.has_last hh.1)
        have E := Lib.hid (ret_int (k := .i64) he.symm)
        clear he
        have HD := Lib.hid hd; clear hd; have HH := Lib.hid hh; clear hh
        go_wp2_with fail
        refine (RHas_any l b k _).mono ?_
        rw [HD.out]
        rintro e w1 ⟨rfl, hf⟩
        have hF := HF.out.trans hf
        have HF1 := Lib.hid hF; clear hF
        clear hf
        go_wp2
        go_ret
        exact ⟨E.out, HF1.out⟩
      · have hd := decide_eq_false hh
        have HD := Lib.hid hd; clear hd; have HH := Lib.hid hh; clear hh
        go_wp2_with fail
        refine (RHas_any l b k _).mono ?_
        rw [HD.out]
        rintro e w1 ⟨rfl, hf⟩
        have hF := HF.out.trans hf
        have c0 := cell_fr' hf c0 (fun h => h)
        have c1 := cell_fr' hf c1 (fun h => h)
        have HF1 := Lib.hid hF; clear hF
        clear hf
        go_wp2
        go_roundw
        case rel => exact ⟨k - 1, by omega, by omega, by go_num, fun j hj => by
          by_cases e : j = k
          · subst e; exact HH.out
          · exact HN.out j (by omega), c0, c1, HF1.out⟩
        case measure => simp [intOf]; omega
    · have he : Tb.lst ⟨l, b⟩ = -1 := by
        by_cases h : Tb.ok ⟨l, b⟩
        · exfalso
          have h1 := Tb.fst_ge h
          have h2 := Tb.fst_le h
          exact HN.out (Tb.lst ⟨l, b⟩) (by omega) (Tb.has_last h)
        · exact Tb.lst_no h
      have E := Lib.hid (ret_int (k := .i64) he.symm)
      clear he
      go_wp2
      go_ret
      exact ⟨E.out, HF.out⟩
end Go.Proofs.YtglngngcohcmfaaDoor
