/- Walks over the document's own answer: First, Last, Less. -/
import Derived.Test.YtdkkeaegmmepfaaTb2
namespace Go.Proofs.Ytdkkeaegmmepfaa
open Go.RowKit Go.Deep

def FiRel (p : Tb.Pf) (b : Nat) (w : World) (i : Value) (wr : World) : Prop :=
  ∃ k : Nat, (k : Int) ≤ 256 ∧ i = .int .i64 k ∧ (∀ j : Nat, j < k → ¬ Tb.has p j) ∧ wr.cell? ⟨b, 0, none⟩ = some (.int .i64 p.len) ∧ wr.cell? ⟨b, 1, none⟩ = some (.int .i64 p.bits) ∧ Fr NoB w wr
set_option maxHeartbeats 2000000 in
theorem RFirst_any (l b : Int) (w : World) :
    Calls Try.prog 54 #[.agg #[.int .i64 l, .int .i64 b]] w (IntFr (Tb.fst ⟨l, b⟩) w) := by
  go_enter Try.func54, Try.ntmps54
  go_wp2
  go_loopw [3] (fun i wr => FiRel ⟨l, b⟩ w.heap.size w i wr) (fun i _ => 256 - (intOf i).toNat)
  case atStart => exact ⟨0, by omega, rfl, fun j hj => by omega, box0 .., box1 .., (Fr.refl _ _).alloc _⟩
  case round =>
    obtain ⟨k, hk, rfl, hno, c0, c1, hf⟩ := hrel
    dsimp only at c0 c1
    have HF := Lib.hid hf; clear hf; have HN := Lib.hid hno; clear hno
    by_cases hkk : (k : Int) < 256
    · by_cases hh : Tb.has ⟨l, b⟩ k
      · have hd := decide_eq_true hh
        have he : Tb.fst ⟨l, b⟩ = (k : Int) := by
          have h1 := Tb.fst_ge hh.1
          have h2 := hh.2.1
          by_cases e : Tb.fst ⟨l, b⟩ = (k : Int)
          · exact e
          · exfalso
            refine HN.out (Tb.fst ⟨l, b⟩).toNat (by omega) ?_
            rw [Int.toNat_of_nonneg h1]
            exact Tb.has_first hh.1
        have E := Lib.hid (ret_int (k := .i64) he.symm)
        clear he
        have HD := Lib.hid hd; clear hd; have HH := Lib.hid hh; clear hh
        go_wp2_with fail
        refine (RHas_any l b k _).mono ?_
        rw [HD.out]
        rintro e w1 ⟨rfl, hf⟩
        have hF := HF.out.trans hf
        have HF1 := Lib.hid hF; clear hF
        clear hf
        go_wp2
        go_ret
        exact ⟨E.out, HF1.out⟩
      · have hd := decide_eq_false hh
        have HD := Lib.hid hd; clear hd; have HH := Lib.hid hh; clear hh
        go_wp2_with fail
        refine (RHas_any l b k _).mono ?_
        rw [HD.out]
        rintro e w1 ⟨rfl, hf⟩
        have hF := HF.out.trans hf
        have c0 := cell_fr' hf c0 (fun h => h)
        have c1 := cell_fr' hf c1 (fun h => h)
        have HF1 := Lib.hid hF; clear hF
        clear hf
        go_wp2
        go_roundw
        case rel => exact ⟨k + 1, by omega, by go_num, fun j hj => by
          by_cases e : j = k
          · subst e; exact HH.out
          · exact HN.out j (by omega), c0, c1, HF1.out⟩
        case measure => simp [intOf]; omega
    · have he : Tb.fst ⟨l, b⟩ = -1 := by
        by_cases h : Tb.ok ⟨l, b⟩
        · exfalso
          have h1 := Tb.fst_ge h
          have h2 := Tb.fst_le h
          refine HN.out (Tb.fst ⟨l, b⟩).toNat (by omega) ?_
          rw [Int.toNat_of_nonneg h1]
          exact Tb.has_first h
        · exact Tb.fst_no h
      have E := Lib.hid (ret_int (k := .i64) he.symm)
      clear he
      go_wp2
      go_ret
      exact ⟨E.out, HF.out⟩

set_option maxHeartbeats 4000000 in
theorem RLess_any (l b m c : Int) (w : World) :
    Calls Try.prog 30 #[.agg #[.int .i64 l, .int .i64 b], .agg #[.int .i64 m, .int .i64 c]] w (BoolFr (decide (Tb.less ⟨l, b⟩ ⟨m, c⟩)) w) := by
  generalize hx : Tb.fst ⟨l, b⟩ = f0
  generalize hy : Tb.fst ⟨m, c⟩ = f1
  have he : decide (Tb.less ⟨l, b⟩ ⟨m, c⟩) = (if f0 = f1 then decide (l < m) else decide (f0 < f1)) := by
    rw [Bool.eq_iff_iff]
    split
    · simp [Tb.less, hx, hy]; omega
    · simp [Tb.less, hx, hy]; omega
  have key : ∃ r : Bool, decide (Tb.less ⟨l, b⟩ ⟨m, c⟩) = r ∧ ((f0 != f1) = true ∧ r = decide (f0 < f1) ∨ (f0 != f1) = false ∧ r = decide (l < m)) := by
    refine ⟨_, rfl, ?_⟩
    rw [he]
    by_cases e : f0 = f1
    · rw [if_pos e]; exact .inr ⟨by simp [e], rfl⟩
    · rw [if_neg e]; exact .inl ⟨by simp [e], rfl⟩
  obtain ⟨r, hr, key⟩ := key
  rw [hr]
  have HX := Lib.hid hx; clear hx; have HY := Lib.hid hy; clear hy
  clear he hr
  rcases key with ⟨k1, rfl⟩ | ⟨k1, rfl⟩ <;> (
    go_enter Try.func30, Try.ntmps30
    go_upto_region 1 with fail
    refine wp_name fun w1 hw1 => ?_
    have c0 : w1.cell? ⟨w.heap.size, 0, none⟩ = some (.int .i64 l) := by rw [hw1]; simp
    have c1 : w1.cell? ⟨w.heap.size, 1, none⟩ = some (.int .i64 b) := by rw [hw1]; simp
    have d0 : w1.cell? ⟨w.heap.size + 1, 0, none⟩ = some (.int .i64 m) := by rw [hw1]; simp
    have d1 : w1.cell? ⟨w.heap.size + 1, 1, none⟩ = some (.int .i64 c) := by rw [hw1]; simp
    have hF : Fr NoB w w1 := by rw [hw1]; exact ((Fr.refl _ _).alloc _).alloc _
    clear hw1
    have HF := Lib.hid hF; clear hF
    go_region_held3 (fun W => W.cell? ⟨w.heap.size, 0, none⟩ = some (.int .i64 l) ∧ W.cell? ⟨w.heap.size, 1, none⟩ = some (.int .i64 b) ∧ W.cell? ⟨w.heap.size + 1, 0, none⟩ = some (.int .i64 m) ∧ W.cell? ⟨w.heap.size + 1, 1, none⟩ = some (.int .i64 c))
      (first | exact ⟨t0, t1, t2, t3⟩ | exact ⟨s0, s1, s2, s3⟩ | exact ⟨c0, c1, d0, d1⟩)
      (first | (go_at_call 54; have hh := HF.out; clear hh; go_must (refine (RFirst_any _ _ _).mono ?_); go_must (first | rw [HX.out] | rw [HY.out]); go_must (rintro e w2 ⟨rfl, hf⟩); go_must (have s0 := cell_fr' hf c0 (fun h => h)); go_must (have s1 := cell_fr' hf c1 (fun h => h)); go_must (have s2 := cell_fr' hf d0 (fun h => h)); go_must (have s3 := cell_fr' hf d1 (fun h => h)); go_must (have hF := HF.out.drew.trans hf); go_must (clear hf HF c0 c1 d0 d1); go_must (have HF1 := Lib.hid hF); go_must (clear hF)) | (go_at_call 54; have hh := HF1.out; clear hh; go_must (refine (RFirst_any _ _ _).mono ?_); go_must (first | rw [HX.out] | rw [HY.out]); go_must (rintro e w3 ⟨rfl, hf⟩); go_must (have t0 := cell_fr' hf s0 (fun h => h)); go_must (have t1 := cell_fr' hf s1 (fun h => h)); go_must (have t2 := cell_fr' hf s2 (fun h => h)); go_must (have t3 := cell_fr' hf s3 (fun h => h)); go_must (have hF := HF1.out.trans hf); go_must (clear hf HF1 s0 s1 s2 s3); go_must (have HF2 := Lib.hid hF); go_must (clear hF)))
    all_goals (
      go_wp2
      go_ret
      exact ⟨rfl, HF2.out⟩))
end Go.Proofs.Ytdkkeaegmmepfaa
