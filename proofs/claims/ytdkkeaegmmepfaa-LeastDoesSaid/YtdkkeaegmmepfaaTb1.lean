/- Walks over package prefix: Check, First, Last, Has, Less. -/
import Derived.Test.YtdkkeaegmmepfaaKitW
import Derived.Test.YtdkkeaegmmepfaaTbMath
namespace Go.Proofs.Ytdkkeaegmmepfaa
open Go.RowKit Go.Deep

def pfV (p : Tb.Pf) : Value := .agg #[.int .i64 p.len, .int .i64 p.bits]
def IntFr (n : Int) (w : World) (e : Ending) (w' : World) : Prop := e = .returned (.int .i64 n) ∧ Fr NoB w w'
theorem box0 (w : World) (x y : Value) (t : TypeId) : (w.alloc (.cells #[x, y] t)).cell? ⟨w.heap.size, 0, none⟩ = some x := by simp
theorem box1 (w : World) (x y : Value) (t : TypeId) : (w.alloc (.cells #[x, y] t)).cell? ⟨w.heap.size, 1, none⟩ = some y := by simp
theorem wrap_pow {l : Int} (h1 : 0 ≤ l) (h2 : l ≤ 8) : wrap64 (2 ^ l.toNat) = 2 ^ l.toNat := by
  have h : ∃ m : Int, 2 ^ l.toNat = m ∧ 0 ≤ m ∧ m ≤ 256 := by
    have : l = 0 ∨ l = 1 ∨ l = 2 ∨ l = 3 ∨ l = 4 ∨ l = 5 ∨ l = 6 ∨ l = 7 ∨ l = 8 := by omega
    rcases this with rfl | rfl | rfl | rfl | rfl | rfl | rfl | rfl | rfl <;> exact ⟨_, rfl, by decide, by decide⟩
  obtain ⟨m, hm, h3, h4⟩ := h
  rw [hm]; unfold wrap64; omega
set_option maxHeartbeats 1000000 in
theorem Check_any (l b : Int) (w : World) :
    Calls Try.prog 37 #[.agg #[.int .i64 l, .int .i64 b]] w (BoolFr (decide (Tb.ok ⟨l, b⟩)) w) := by
  by_cases h1 : 0 ≤ l
  · have h1' : decide (0 ≤ l) = true := by simpa using h1
    by_cases h2 : l ≤ 8
    · have h2' : decide (l ≤ 8) = true := by simpa using h2
      by_cases h3 : 0 ≤ b
      · have h3' : decide (0 ≤ b) = true := by simpa using h3
        have hw := wrap_pow h1 h2
        have he : decide (Tb.ok ⟨l, b⟩) = decide (b < 2 ^ l.toNat) := by
          refine decide_eq_decide.2 ⟨fun h => h.2.2.2, fun h => ⟨h1, h2, h3, h⟩⟩
        rw [he, ← hw]
        clear hw he
        go_enter Try.func37, Try.ntmps37
        go_wp2
        go_quiet (fail)
        go_wp2
        go_ret
        exact ⟨rfl, ((Fr.refl _ _).alloc _).drewN _⟩
      · rw [decide_eq_false (show ¬ Tb.ok ⟨l, b⟩ from fun h => h3 h.2.2.1)]
        have h3' : decide (0 ≤ b) = false := by simpa using h3
        go_enter Try.func37, Try.ntmps37
        go_wp2
        go_quiet (fail)
        go_wp2
        go_ret
        exact ⟨rfl, ((Fr.refl _ _).alloc _).drewN _⟩
    · rw [decide_eq_false (show ¬ Tb.ok ⟨l, b⟩ from fun h => h2 h.2.1)]
      have h2' : decide (l ≤ 8) = false := by simpa using h2
      go_enter Try.func37, Try.ntmps37
      go_wp2
      go_quiet (fail)
      go_wp2
      go_ret
      exact ⟨rfl, ((Fr.refl _ _).alloc _).drewN _⟩
  · rw [decide_eq_false (show ¬ Tb.ok ⟨l, b⟩ from fun h => h1 h.1)]
    have h1' : decide (0 ≤ l) = false := by simpa using h1
    go_enter Try.func37, Try.ntmps37
    go_wp2
    go_quiet (fail)
    go_wp2
    go_ret
    exact ⟨rfl, ((Fr.refl _ _).alloc _).drewN _⟩
theorem fst_wrap {p : Tb.Pf} (h : Tb.ok p) : wrap64 (p.bits * 2 ^ (8 - p.len).toNat) = Tb.fst p := by
  rw [Tb.fst_ok h]
  have h3 := h.2.2.1
  show wrap64 (p.bits * Tb.span p) = _
  rcases Tb.ok_cases h with h | h | h | h | h | h | h | h | h <;> (obtain ⟨_, e, _⟩ := h; rw [e]; unfold wrap64; omega)
set_option maxHeartbeats 1000000 in
theorem First_any (l b : Int) (w : World) :
    Calls Try.prog 63 #[.agg #[.int .i64 l, .int .i64 b]] w (IntFr (Tb.fst ⟨l, b⟩) w) := by
  by_cases h : Tb.ok ⟨l, b⟩
  · have hd := decide_eq_true h
    rw [← fst_wrap h]
    obtain ⟨h1, h2, h3, h4⟩ := h
    dsimp only at h1 h2 h3 h4 ⊢
    have HD := Lib.hid hd; clear hd; have H4 := Lib.hid h4; clear h4
    go_enter Try.func63, Try.ntmps63
    go_wp2_with fail
    refine (Check_any l b _).mono ?_
    rw [HD.out]
    rintro e w1 ⟨rfl, hf⟩
    have c0 := cell_fr' hf (box0 w (.int .i64 l) (.int .i64 b) 31) (fun h => h)
    have c1 := cell_fr' hf (box1 w (.int .i64 l) (.int .i64 b) 31) (fun h => h)
    have hF := ((Fr.refl NoB w).alloc _).trans hf
    have HF := Lib.hid hF; clear hF
    clear hf
    go_wp2
    go_ret
    exact ⟨rfl, HF.out⟩
  · have hd := decide_eq_false h
    rw [Tb.fst_no h]
    have HD := Lib.hid hd; clear hd; have H := Lib.hid h; clear h
    go_enter Try.func63, Try.ntmps63
    go_wp2_with fail
    refine (Check_any l b _).mono ?_
    rw [HD.out]
    rintro e w1 ⟨rfl, hf⟩
    have hF := ((Fr.refl NoB w).alloc _).trans hf
    have HF := Lib.hid hF; clear hF
    clear hf
    go_wp2
    go_ret
    exact ⟨rfl, HF.out⟩
theorem span_wrap {p : Tb.Pf} (h : Tb.ok p) : wrap64 (2 ^ (8 - p.len).toNat) = Tb.span p := by
  show wrap64 (Tb.span p) = _
  rcases Tb.ok_cases h with h | h | h | h | h | h | h | h | h <;> (obtain ⟨_, e, _⟩ := h; rw [e]; unfold wrap64; omega)
theorem span_in {p : Tb.Pf} (h : Tb.ok p) : 1 ≤ Tb.span p ∧ Tb.span p ≤ 256 := by
  rcases Tb.ok_cases h with h | h | h | h | h | h | h | h | h <;> (obtain ⟨_, e, _⟩ := h; rw [e]; omega)
theorem lst_wrap {p : Tb.Pf} (h : Tb.ok p) : IntKind.i64.wrap (IntKind.i64.wrap (Tb.fst p + IntKind.i64.wrap (2 ^ (8 - p.len).toNat)) - 1) = Tb.lst p := by
  have hs := span_in h
  have h0 := Tb.fst_ge h
  have h1 := Tb.fst_le h
  have e : Tb.lst p = Tb.fst p + Tb.span p - 1 := by rw [Tb.fst_ok h, Tb.lst_ok h]
  show IntKind.i64.wrap (IntKind.i64.wrap (Tb.fst p + IntKind.i64.wrap (Tb.span p)) - 1) = Tb.lst p
  rw [IntWalk.i64_in (Tb.span p) (by omega), IntWalk.i64_in (Tb.fst p + Tb.span p) (by omega), IntWalk.i64_in _ (by omega), e]
set_option maxHeartbeats 1000000 in
theorem Last_any (l b : Int) (w : World) :
    Calls Try.prog 64 #[.agg #[.int .i64 l, .int .i64 b]] w (IntFr (Tb.lst ⟨l, b⟩) w) := by
  by_cases h : Tb.ok ⟨l, b⟩
  · have hd := decide_eq_true h
    rw [← lst_wrap h]
    obtain ⟨h1, h2, h3, h4⟩ := h
    dsimp only at h1 h2 h3 h4 ⊢
    have HD := Lib.hid hd; clear hd; have H4 := Lib.hid h4; clear h4
    generalize hfst : Tb.fst ⟨l, b⟩ = f0
    have hsub := IntWalk.i64_in ((8 : Int) - l) (by omega)
    have hge : (0 : Int) ≤ 8 - l := by omega
    have hFst := Lib.hid hfst; clear hfst
    go_enter Try.func64, Try.ntmps64
    go_wp2_with fail
    refine (Check_any l b _).mono ?_
    rw [HD.out]
    rintro e w1 ⟨rfl, hf⟩
    have c0 := cell_fr' hf (box0 w (.int .i64 l) (.int .i64 b) 31) (fun h => h)
    have c1 := cell_fr' hf (box1 w (.int .i64 l) (.int .i64 b) 31) (fun h => h)
    have hF := ((Fr.refl NoB w).alloc _).trans hf
    have HF := Lib.hid hF; clear hF
    clear hf
    go_wp2
    go_region_held3 (fun W => W.cell? ⟨w.heap.size, 0, none⟩ = some (.int .i64 l) ∧ W.cell? ⟨w.heap.size, 1, none⟩ = some (.int .i64 b)) (first | exact ⟨s0, s1⟩ | exact ⟨c0, c1⟩)
      (first | (go_at_call 63; refine (First_any l b _).mono ?_; rintro e w2 ⟨rfl, hf⟩; rw [hFst.out]; have s0 := cell_fr' hf c0 (fun h => h); have s1 := cell_fr' hf c1 (fun h => h)))
    all_goals (
      go_wp2
      go_ret
      exact ⟨rfl, HF.out.drew.trans hf⟩)
  · have hd := decide_eq_false h
    rw [Tb.lst_no h]
    have HD := Lib.hid hd; clear hd; have H := Lib.hid h; clear h
    go_enter Try.func64, Try.ntmps64
    go_wp2_with fail
    refine (Check_any l b _).mono ?_
    rw [HD.out]
    rintro e w1 ⟨rfl, hf⟩
    have hF := ((Fr.refl NoB w).alloc _).trans hf
    have HF := Lib.hid hF; clear hF
    clear hf
    go_wp2
    go_ret
    exact ⟨rfl, HF.out⟩
set_option maxHeartbeats 1000000 in
theorem Has_any (l b a : Int) (w : World) :
    Calls Try.prog 46 #[.agg #[.int .i64 l, .int .i64 b], .int .i64 a] w (BoolFr (decide (Tb.has ⟨l, b⟩ a)) w) := by
  by_cases h : Tb.ok ⟨l, b⟩
  · have hd := decide_eq_true h
    by_cases h1 : Tb.fst ⟨l, b⟩ ≤ a
    · have he : decide (Tb.has ⟨l, b⟩ a) = decide (a ≤ Tb.lst ⟨l, b⟩) := decide_eq_decide.2 ⟨fun k => k.2.2, fun k => ⟨h, h1, k⟩⟩
      rw [he]
      have HD := Lib.hid hd; clear hd; have H := Lib.hid h; clear h
      clear he
      generalize hfst : Tb.fst ⟨l, b⟩ = f0 at *
      have hFst := Lib.hid hfst; clear hfst
      go_enter Try.func46, Try.ntmps46
      go_wp2_with fail
      refine (Check_any l b _).mono ?_
      rw [HD.out]
      rintro e w1 ⟨rfl, hf⟩
      have c0 := cell_fr' hf (box0 w (.int .i64 l) (.int .i64 b) 31) (fun h => h)
      have c1 := cell_fr' hf (box1 w (.int .i64 l) (.int .i64 b) 31) (fun h => h)
      have hF := ((Fr.refl NoB w).alloc _).trans hf
      have HF := Lib.hid hF; clear hF
      clear hf
      go_wp2_with fail
      refine (First_any l b _).mono ?_
      rw [hFst.out]
      rintro e w2 ⟨rfl, hf⟩
      have c0 := cell_fr' hf c0 (fun h => h)
      have c1 := cell_fr' hf c1 (fun h => h)
      have hF := HF.out.trans hf
      clear HF
      have HF := Lib.hid hF; clear hF
      clear hf
      go_wp2_with fail
      refine (Last_any l b _).mono ?_
      rintro e w3 ⟨rfl, hf⟩
      have hF := HF.out.trans hf
      clear HF
      have HF := Lib.hid hF; clear hF
      clear hf
      go_wp2
      go_ret
      exact ⟨rfl, HF.out⟩
    · rw [decide_eq_false (fun k : Tb.has ⟨l, b⟩ a => h1 k.2.1)]
      have HD := Lib.hid hd; clear hd; have H := Lib.hid h; clear h
      generalize hfst : Tb.fst ⟨l, b⟩ = f0 at *
      have hFst := Lib.hid hfst; clear hfst
      go_enter Try.func46, Try.ntmps46
      go_wp2_with fail
      refine (Check_any l b _).mono ?_
      rw [HD.out]
      rintro e w1 ⟨rfl, hf⟩
      have c0 := cell_fr' hf (box0 w (.int .i64 l) (.int .i64 b) 31) (fun h => h)
      have c1 := cell_fr' hf (box1 w (.int .i64 l) (.int .i64 b) 31) (fun h => h)
      have hF := ((Fr.refl NoB w).alloc _).trans hf
      have HF := Lib.hid hF; clear hF
      clear hf
      go_wp2_with fail
      refine (First_any l b _).mono ?_
      rw [hFst.out]
      rintro e w2 ⟨rfl, hf⟩
      have hF := HF.out.trans hf
      clear HF
      have HF := Lib.hid hF; clear hF
      clear hf
      go_wp2
      go_ret
      exact ⟨rfl, HF.out⟩
  · have hd := decide_eq_false h
    rw [decide_eq_false (fun k : Tb.has ⟨l, b⟩ a => h k.1)]
    have HD := Lib.hid hd; clear hd; have H := Lib.hid h; clear h
    go_enter Try.func46, Try.ntmps46
    go_wp2_with fail
    refine (Check_any l b _).mono ?_
    rw [HD.out]
    rintro e w1 ⟨rfl, hf⟩
    have hF := ((Fr.refl NoB w).alloc _).trans hf
    have HF := Lib.hid hF; clear hF
    clear hf
    go_wp2
    go_ret
    exact ⟨rfl, HF.out⟩
set_option maxHeartbeats 2000000 in
theorem Less_any (l b m c : Int) (w : World) :
    Calls Try.prog 58 #[.agg #[.int .i64 l, .int .i64 b], .agg #[.int .i64 m, .int .i64 c]] w (BoolFr (decide (Tb.less ⟨l, b⟩ ⟨m, c⟩)) w) := by
  generalize hx : Tb.fst ⟨l, b⟩ = f0
  generalize hy : Tb.fst ⟨m, c⟩ = f1
  have he : decide (Tb.less ⟨l, b⟩ ⟨m, c⟩) = (decide (f0 < f1) || (f0 == f1 && decide (l < m))) := by
    rw [Bool.eq_iff_iff]; simp [Tb.less, hx, hy]
  rw [he]
  have HX := Lib.hid hx; clear hx; have HY := Lib.hid hy; clear hy
  clear he
  have key : (decide (f0 < f1) = true ∧ (f0 == f1) = (f0 == f1)) ∨ (decide (f0 < f1) = false ∧ (f0 == f1) = true) ∨ (decide (f0 < f1) = false ∧ (f0 == f1) = false) := by
    cases h1 : decide (f0 < f1) <;> cases h2 : (f0 == f1) <;> simp
  rcases key with ⟨k1, k2⟩ | ⟨k1, k2⟩ | ⟨k1, k2⟩ <;> rw [k1, k2] <;> (
    go_enter Try.func58, Try.ntmps58
    go_upto_region 1 with fail
    refine wp_name fun w1 hw1 => ?_
    have c0 : w1.cell? ⟨w.heap.size, 0, none⟩ = some (.int .i64 l) := by rw [hw1]; simp
    have c1 : w1.cell? ⟨w.heap.size, 1, none⟩ = some (.int .i64 b) := by rw [hw1]; simp
    have d0 : w1.cell? ⟨w.heap.size + 1, 0, none⟩ = some (.int .i64 m) := by rw [hw1]; simp
    have d1 : w1.cell? ⟨w.heap.size + 1, 1, none⟩ = some (.int .i64 c) := by rw [hw1]; simp
    have hF : Fr NoB w w1 := by rw [hw1]; exact ((Fr.refl _ _).alloc _).alloc _
    clear hw1
    have HF := Lib.hid hF; clear hF
    go_region_held3 (fun W => W.cell? ⟨w.heap.size, 0, none⟩ = some (.int .i64 l) ∧ W.cell? ⟨w.heap.size, 1, none⟩ = some (.int .i64 b) ∧ W.cell? ⟨w.heap.size + 1, 0, none⟩ = some (.int .i64 m) ∧ W.cell? ⟨w.heap.size + 1, 1, none⟩ = some (.int .i64 c))
      (first | exact ⟨t0, t1, t2, t3⟩ | exact ⟨s0, s1, s2, s3⟩ | exact ⟨c0, c1, d0, d1⟩)
      (first | (go_at_call 63; have hh := HF.out; clear hh; go_must (refine (First_any _ _ _).mono ?_); go_must (first | rw [HX.out] | rw [HY.out]); go_must (rintro e w2 ⟨rfl, hf⟩); go_must (have s0 := cell_fr' hf c0 (fun h => h)); go_must (have s1 := cell_fr' hf c1 (fun h => h)); go_must (have s2 := cell_fr' hf d0 (fun h => h)); go_must (have s3 := cell_fr' hf d1 (fun h => h)); go_must (have hF := HF.out.drew.trans hf); go_must (clear hf HF c0 c1 d0 d1); go_must (have HF1 := Lib.hid hF); go_must (clear hF)) | (go_at_call 63; have hh := HF1.out; clear hh; go_must (refine (First_any _ _ _).mono ?_); go_must (first | rw [HX.out] | rw [HY.out]); go_must (rintro e w3 ⟨rfl, hf⟩); go_must (have t0 := cell_fr' hf s0 (fun h => h)); go_must (have t1 := cell_fr' hf s1 (fun h => h)); go_must (have t2 := cell_fr' hf s2 (fun h => h)); go_must (have t3 := cell_fr' hf s3 (fun h => h)); go_must (have hF := HF1.out.trans hf); go_must (clear hf HF1 s0 s1 s2 s3); go_must (have HF2 := Lib.hid hF); go_must (clear hF)))
    all_goals (
      go_wp2
      go_ret
      exact ⟨by simp, HF2.out⟩))
end Go.Proofs.Ytdkkeaegmmepfaa
