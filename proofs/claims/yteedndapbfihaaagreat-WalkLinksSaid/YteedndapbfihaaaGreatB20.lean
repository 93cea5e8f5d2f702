/- Walks: the comparison of (*Table).at, slices.BinarySearchFunc, (*Table).at. -/
import Derived.Test.YteedndapbfihaaaGreatB19
namespace Go.Proofs.YteedndapbfihaaaGreat
open Go.RowKit Go.Deep

set_option maxHeartbeats 4000000 in
theorem cmp_any (l b h m c : Int) (w : World) :
    Calls Tryz.prog 86 #[.agg #[.int .i64 l, .int .i64 b, .int .i64 h], .agg #[.int .i64 m, .int .i64 c]] w (IntFr (Tb.cmp ⟨l, b⟩ ⟨m, c⟩) w) := by
  have key : ∃ r s : Bool, decide (Tb.less ⟨l, b⟩ ⟨m, c⟩) = r ∧ decide (Tb.less ⟨m, c⟩ ⟨l, b⟩) = s ∧ Tb.cmp ⟨l, b⟩ ⟨m, c⟩ = if r then -1 else if s then 1 else 0 := by
    refine ⟨_, _, rfl, rfl, ?_⟩
    unfold Tb.cmp
    simp only [decide_eq_true_eq]
  obtain ⟨r, s, h1, h2, h3⟩ := key
  have H1 := Lib.hid h1; clear h1; have H2 := Lib.hid h2; clear h2
  have HC := Lib.hid (ret_int (k := .i64) h3.symm)
  clear h3
  go_enter Tryz.func86, Tryz.ntmps86
  go_upto_region 1 with fail
  refine wp_name fun w1 hw1 => ?_
  have c0 : w1.cell? ⟨w.heap.size, 0, none⟩ = some (.int .i64 l) := by rw [hw1]; simp
  have c1 : w1.cell? ⟨w.heap.size, 1, none⟩ = some (.int .i64 b) := by rw [hw1]; simp
  have d0 : w1.cell? ⟨w.heap.size + 1, 0, none⟩ = some (.int .i64 m) := by rw [hw1]; simp
  have d1 : w1.cell? ⟨w.heap.size + 1, 1, none⟩ = some (.int .i64 c) := by rw [hw1]; simp
  have hF : Fr NoB w w1 := by rw [hw1]; (repeat (first | exact Fr.refl _ _ | refine Fr.alloc ?_ _ | refine Fr.setNew ?_ (by omega) _ _ | refine Fr.drewN ?_ _ | refine Fr.drew ?_))
  clear hw1
  have HF := Lib.hid hF; clear hF
  go_wp2_with fail
  refine (Less_any l b m c _).mono ?_
  rw [H1.out]
  rintro e w2 ⟨rfl, hf⟩
  have c0 := cell_fr' hf c0 (fun h => h)
  have c1 := cell_fr' hf c1 (fun h => h)
  have d0 := cell_fr' hf d0 (fun h => h)
  have d1 := cell_fr' hf d1 (fun h => h)
  have HF1 := Lib.hid (HF.out.trans hf)
  clear hf
  cases r with
  | true =>
    go_wp2
    go_ret
    exact ⟨HC.out, HF1.out⟩
  | false =>
    go_wp2_with fail
    refine (Less_any m c l b _).mono ?_
    rw [H2.out]
    rintro e w3 ⟨rfl, hf⟩
    have HF2 := Lib.hid (HF1.out.trans hf)
    clear hf
    cases s with
    | true =>
      go_wp2
      go_ret
      exact ⟨HC.out, HF2.out⟩
    | false =>
      go_wp2
      go_ret
      exact ⟨HC.out, HF2.out⟩
def BsPost (L : List Tb.Rt) (p : Tb.Pf) (w : World) (e : Ending) (w' : World) : Prop :=
  ∃ i : Nat, e = .returned (.tuple #[.int .i64 i, .bool (decide (i < L.length) && decide (Tb.cmp (Tb.nth L i).p p = 0))]) ∧ Tb.Place L p i ∧ Fr NoB w w'
def BsRel (L : List Tb.Rt) (p : Tb.Pf) (b : Nat) (w : World) (lo hi : Nat) (wr : World) : Prop :=
  (∀ t, t < lo → Tb.less (Tb.nth L t).p p) ∧ (∀ t, hi ≤ t → t < L.length → ¬ Tb.less (Tb.nth L t).p p) ∧ wr.cell? ⟨b, 0, none⟩ = some (.int .i64 p.len) ∧ wr.cell? ⟨b, 1, none⟩ = some (.int .i64 p.bits) ∧ Fr NoB w wr
theorem cmp_neg (r p : Tb.Pf) : (Tb.cmp r p < 0) ↔ Tb.less r p := by
  unfold Tb.cmp
  split
  · simp [*]
  · split <;> simp [*]
set_option maxRecDepth 100000 in
set_option maxHeartbeats 4000000 in
theorem Bs_any (a : Option Addr) (c : Nat) (L : List Tb.Rt) (l b : Int) (w : World) (hl : L.length ≤ 1000) (ha : Rs w a L) (hm : ∀ s t, s ≤ t → t < L.length → Tb.less (Tb.nth L t).p ⟨l, b⟩ → Tb.less (Tb.nth L s).p ⟨l, b⟩) :
    Calls Tryz.prog 85 #[.slice a L.length c, .agg #[.int .i64 l, .int .i64 b], .func (.func 86) #[] #[]] w (BsPost L ⟨l, b⟩ w) := by
  have HA := Lib.hid ha; clear ha; have HM := Lib.hid hm; clear hm
  go_enter Tryz.func85, Tryz.ntmps85
  go_wp2
  go_loopg [9, 10] L.length (fun kx s9 s10 wr => ∃ lo hi : Nat, s9 = .int .i64 lo ∧ s10 = .int .i64 hi ∧ lo ≤ hi ∧ hi ≤ L.length ∧ hi - lo ≤ kx ∧ Hid (BsRel L ⟨l, b⟩ w.heap.size w lo hi wr))
  case atStart => exact ⟨0, L.length, rfl, rfl, Nat.zero_le _, Nat.le_refl _, by omega, ⟨fun t ht => absurd ht (Nat.not_lt_zero _), fun t h1 h2 => by omega, box0 .., box1 .., (Fr.refl _ _).alloc _⟩⟩
  case round =>
    obtain ⟨lo, hi, rfl, rfl, hlh, hin, hg, HR⟩ := hrel
    have p0 := HR.out.2.2.1
    have p1 := HR.out.2.2.2.1
    have HF := Lib.hid HR.out.2.2.2.2
    dsimp only at p0 p1
    by_cases hlt : lo < hi
    · obtain ⟨mi, hmi⟩ : ∃ mi, mi = (lo + hi) / 2 := ⟨_, rfl⟩
      have hmm : ((lo : Int) + (hi : Int)) / 2 = (mi : Int) := by omega
      have hm1 : lo ≤ mi := by omega
      have hm2 : mi < hi := by omega
      have hmn : mi < L.length := by omega
      clear hmi
      obtain ⟨b0, o0, rfl, c0, c1, c2⟩ := (HA.out.keep0 HF.out) mi hmn
      generalize hr : Tb.nth L mi = r at *
      obtain ⟨⟨x, y⟩, z⟩ := r
      dsimp only at c0 c1 c2
      have HQ := Lib.hid hr; clear hr
      have i1 : (mi : Int) < (L.length : Int) := by omega
      have hi2 : (hi : Int) ≤ 1000 := by omega
      have HMM := Lib.hid hmm; clear hmm
      go_upto_region 5 with fail
      rw [HMM.out]
      generalize hcm : Tb.cmp ⟨x, y⟩ ⟨l, b⟩ = cv
      have HCM := Lib.hid hcm; clear hcm
      have hcv : cv = -1 ∨ cv = 1 ∨ cv = 0 := by rw [← HCM.out]; unfold Tb.cmp; split; simp; split <;> simp
      have HCV := Lib.hid hcv; clear hcv
      go_region_held3 (fun W => W.cell? ⟨b0, o0 + mi * 3, none⟩ = some (.int .i64 x) ∧ W.cell? ⟨b0, o0 + mi * 3 + 1, none⟩ = some (.int .i64 y) ∧ W.cell? ⟨b0, o0 + mi * 3 + 2, none⟩ = some (.int .i64 z) ∧ W.cell? ⟨w.heap.size, 0, none⟩ = some (.int .i64 l) ∧ W.cell? ⟨w.heap.size, 1, none⟩ = some (.int .i64 b))
        (first | exact ⟨s0, s1, s2, t0, t1⟩ | exact ⟨c0, c1, c2, p0, p1⟩)
        (first | (go_at_call 86; have hh := HF.out; clear hh; go_must (refine (cmp_any _ _ _ _ _ _).mono ?_); go_must (rintro e w2 ⟨rfl, hf⟩); go_must (rw [HCM.out]); go_must (have s0 := cell_fr' hf c0 (fun h => h)); go_must (have s1 := cell_fr' hf c1 (fun h => h)); go_must (have s2 := cell_fr' hf c2 (fun h => h)); go_must (have t0 := cell_fr' hf p0 (fun h => h)); go_must (have t1 := cell_fr' hf p1 (fun h => h)); go_must (have HF1 := Lib.hid (HF.out.drew.trans hf)); go_must (clear hf)))
      have hless : cv < 0 ↔ Tb.less ⟨x, y⟩ ⟨l, b⟩ := by rw [← HCM.out]; exact cmp_neg _ _
      by_cases hc0 : cv < 0
      · have hd := decide_eq_true hc0
        have HL := Lib.hid (hless.1 hc0)
        clear hless
        go_wp2
        go_roundg (hi - (mi + 1))
        case measure => omega
        case rel =>
          exact ⟨mi + 1, hi, by rw [show ((mi : Int) + 1) = ((mi + 1 : Nat) : Int) by omega], rfl, by omega, hin, Nat.le_refl _, ⟨fun t ht => HM.out t mi (by omega) (by omega) (by rw [HQ.out]; exact HL.out), HR.out.2.1, t0, t1, HF1.out⟩⟩
      · have hd := decide_eq_false hc0
        have HL := Lib.hid (fun h => hc0 (hless.2 h))
        clear hless
        go_wp2
        go_roundg (mi - lo)
        case measure => omega
        case rel =>
          exact ⟨lo, mi, rfl, rfl, by omega, by omega, Nat.le_refl _, ⟨HR.out.1, fun t h1 h2 h3 => HL.out (by have := HM.out mi t h1 h2 h3; rwa [HQ.out] at this), t0, t1, HF1.out⟩⟩
    · obtain rfl : hi = lo := by omega
      have hpl : Tb.Place L ⟨l, b⟩ hi := ⟨hin, HR.out.1, HR.out.2.1⟩
      have HP := Lib.hid hpl; clear hpl
      by_cases hn : hi < L.length
      · obtain ⟨b0, o0, rfl, c0, c1, c2⟩ := (HA.out.keep0 HF.out) hi hn
        generalize hr : Tb.nth L hi = r at *
        obtain ⟨⟨x, y⟩, z⟩ := r
        dsimp only at c0 c1 c2
        generalize hcm : Tb.cmp ⟨x, y⟩ ⟨l, b⟩ = cv
        have hcv : cv = -1 ∨ cv = 1 ∨ cv = 0 := by rw [← hcm]; unfold Tb.cmp; split; simp; split <;> simp
        have he : (decide (hi < L.length) && decide (Tb.cmp (Tb.nth L hi).p ⟨l, b⟩ = 0)) = (cv == 0) := by
          rw [hr, decide_eq_true hn, Bool.true_and]
          show decide (Tb.cmp ⟨x, y⟩ ⟨l, b⟩ = 0) = _
          rw [hcm]
          rcases hcv with rfl | rfl | rfl <;> rfl
        have HE := Lib.hid he; clear he hr hcv
        have HCM := Lib.hid hcm; clear hcm
        have hni : (hi : Int) < (L.length : Int) := by omega
        have hnd := decide_eq_true hni
        go_wp2
        go_region_held3 (fun W => W.cell? ⟨b0, o0 + hi * 3, none⟩ = some (.int .i64 x) ∧ W.cell? ⟨b0, o0 + hi * 3 + 1, none⟩ = some (.int .i64 y) ∧ W.cell? ⟨b0, o0 + hi * 3 + 2, none⟩ = some (.int .i64 z) ∧ W.cell? ⟨w.heap.size, 0, none⟩ = some (.int .i64 l) ∧ W.cell? ⟨w.heap.size, 1, none⟩ = some (.int .i64 b))
          (first | exact ⟨s0, s1, s2, t0, t1⟩ | exact ⟨c0, c1, c2, p0, p1⟩)
          (first | (go_at_call 86; have hh := HF.out; clear hh; go_must (refine (cmp_any _ _ _ _ _ _).mono ?_); go_must (rintro e w2 ⟨rfl, hf⟩); go_must (rw [HCM.out]); go_must (have s0 := cell_fr' hf c0 (fun h => h)); go_must (have s1 := cell_fr' hf c1 (fun h => h)); go_must (have s2 := cell_fr' hf c2 (fun h => h)); go_must (have t0 := cell_fr' hf p0 (fun h => h)); go_must (have t1 := cell_fr' hf p1 (fun h => h)); go_must (have HF1 := Lib.hid (HF.out.drew.trans hf)); go_must (clear hf)))
        all_goals (
          go_wp2
          refine bodyPost_ret (v := .tuple #[.int .i64 hi, .bool (cv == 0)]) ?_ rfl ⟨hi, by rw [HE.out], HP.out, HF1.out⟩
          simp [results, Tryz.results85, go_sem])
      · have he : (decide (hi < L.length) && decide (Tb.cmp (Tb.nth L hi).p ⟨l, b⟩ = 0)) = false := by simp [hn]
        have HE := Lib.hid he; clear he
        have hni : ¬ (hi : Int) < (L.length : Int) := by omega
        have hnd := decide_eq_false hni
        go_wp2
        go_quiet (fail)
        go_wp2
        refine bodyPost_ret (v := .tuple #[.int .i64 hi, .bool false]) ?_ rfl ⟨hi, by rw [HE.out], HP.out, HF.out.drewN _⟩
        simp [results, Tryz.results85, go_sem]
def AtPost (L : List Tb.Rt) (p : Tb.Pf) (w : World) (e : Ending) (w' : World) : Prop :=
  e = .returned (.tuple #[.int .i64 ((Tb.lo L p).length : Nat), .bool (decide (Tb.get L p ≠ -2))]) ∧ Fr NoB w w'
set_option maxRecDepth 100000 in
set_option maxHeartbeats 4000000 in
theorem at_any (t : Nat) (a : Option Addr) (c : Nat) (L : List Tb.Rt) (l b : Int) (w : World) (hl : L.length ≤ 1000) (hw : Tb.Wf L) (ha : Rs w a L) (hc : w.cell? ⟨t, 0, none⟩ = some (.slice a L.length c)) :
    Calls Tryz.prog 54 #[.pointer (some ⟨t, 0, none⟩), .agg #[.int .i64 l, .int .i64 b]] w (AtPost L ⟨l, b⟩ w) := by
  have HA := Lib.hid ha; clear ha; have HW := Lib.hid hw; clear hw
  go_enter Tryz.func54, Tryz.ntmps54
  go_upto_region 1 with fail
  refine wp_name fun w1 hw1 => ?_
  have c0 : w1.cell? ⟨w.heap.size, 0, none⟩ = some (.int .i64 l) := by rw [hw1]; simp
  have c1 : w1.cell? ⟨w.heap.size, 1, none⟩ = some (.int .i64 b) := by rw [hw1]; simp
  have hF : Fr NoB w w1 := by rw [hw1]; (repeat (first | exact Fr.refl _ _ | refine Fr.alloc ?_ _ | refine Fr.setNew ?_ (by omega) _ _ | refine Fr.drewN ?_ _ | refine Fr.drew ?_))
  have c2 := cell_fr' hF hc (fun h => h)
  clear hw1
  have HF := Lib.hid hF; clear hF
  go_region_held3 (fun W => W.cell? ⟨t, 0, none⟩ = some (.slice a L.length c) ∧ W.cell? ⟨w.heap.size, 0, none⟩ = some (.int .i64 l) ∧ W.cell? ⟨w.heap.size, 1, none⟩ = some (.int .i64 b))
    (first | exact ⟨t0, t1, t2⟩ | exact ⟨c2, c0, c1⟩)
    (first | (go_at_call 85; have hh := HF.out; clear hh; go_must (refine (Bs_any a c L l b _ hl (Rs.keep0 (Rs.keep0 HA.out HF.out) (Fr.drew (Fr.refl _ _))) (fun s t h1 h2 h3 => Tb.mono_less HW.out h1 h2 h3)).mono ?_); go_must (rintro e w2 ⟨i, rfl, hpl, hf⟩); go_must (have t0 := cell_fr' hf c2 (fun h => h)); go_must (have t1 := cell_fr' hf c0 (fun h => h)); go_must (have t2 := cell_fr' hf c1 (fun h => h)); go_must (have HF1 := Lib.hid (HF.out.drew.trans hf)); go_must (have HP := Lib.hid hpl); go_must (clear hf hpl)))
  all_goals (
    have he : Ending.returned (.tuple #[.int .i64 (i : Nat), .bool (decide (i < L.length) && decide (Tb.cmp (Tb.nth L i).p ⟨l, b⟩ = 0))]) = .returned (.tuple #[.int .i64 ((Tb.lo L ⟨l, b⟩).length : Nat), .bool (decide (Tb.get L ⟨l, b⟩ ≠ -2))]) := by
      rw [(Tb.place_lo HP.out).2, Tb.found_iff HW.out HP.out]
    have HE := Lib.hid he; clear he
    generalize (decide (i < L.length) && decide (Tb.cmp (Tb.nth L i).p ⟨l, b⟩ = 0)) = bb at *
    go_wp2
    refine bodyPost_ret (v := .tuple #[.int .i64 i, .bool bb]) ?_ rfl ⟨HE.out, HF1.out⟩
    simp [results, Tryz.results54, go_sem])
end Go.Proofs.YteedndapbfihaaaGreat
/- Walks: Get, GetOf, Look (of both), SameRoutes. -/
namespace Go.Proofs.YteedndapbfihaaaGreat
open Go.RowKit Go.Deep

def GoRel (L : List Tb.Rt) (p : Tb.Pf) (b : Nat) (w : World) (i : Value) (wr : World) : Prop :=
  ∃ k : Nat, k ≤ L.length ∧ i = .int .i64 k ∧ (∀ j, j < k → ¬ ((Tb.nth L j).p = p ∧ Tb.ok p)) ∧ wr.cell? ⟨b, 0, none⟩ = some (.int .i64 p.len) ∧ wr.cell? ⟨b, 1, none⟩ = some (.int .i64 p.bits) ∧ Fr NoB w wr
theorem get_at {L : List Tb.Rt} {p : Tb.Pf} {k : Nat} (hk : k < L.length) (h : ∀ j, j < k → ¬ ((Tb.nth L j).p = p ∧ Tb.ok p)) (h1 : (Tb.nth L k).p = p) (h2 : Tb.ok p) : Tb.get L p = (Tb.nth L k).hop := by
  conv => lhs; rw [← List.take_append_drop k L]
  rw [Tb.get_skip (fun r hr => by
    obtain ⟨j, hj, rfl⟩ := List.getElem_of_mem hr
    have := h j (by simp at hj; omega)
    rw [Tb.nth_eq (by simp at hj; omega)] at this
    simpa using this), List.drop_eq_getElem_cons hk, ← Tb.nth_eq hk]
  show (if (Tb.nth L k).p = p ∧ Tb.ok p then (Tb.nth L k).hop else _) = _
  rw [if_pos ⟨h1, h2⟩]
theorem get_end {L : List Tb.Rt} {p : Tb.Pf} {k : Nat} (hk : ¬ k < L.length) (h : ∀ j, j < k → ¬ ((Tb.nth L j).p = p ∧ Tb.ok p)) : Tb.get L p = -2 := by
  conv => lhs; rw [← List.append_nil L]
  rw [Tb.get_skip (fun r hr => by
    obtain ⟨j, hj, rfl⟩ := List.getElem_of_mem hr
    have := h j (by omega)
    rw [Tb.nth_eq hj] at this
    exact this)]
  rfl
set_option maxRecDepth 100000 in
set_option maxHeartbeats 4000000 in
theorem GetOf_any (a : Option Addr) (c : Nat) (L : List Tb.Rt) (l b : Int) (w : World) (hl : L.length ≤ 1000) (ha : Rs w a L) :
    Calls Tryz.prog 99 #[.slice a L.length c, .agg #[.int .i64 l, .int .i64 b]] w (IntFr (Tb.get L ⟨l, b⟩) w) := by
  have HA := Lib.hid ha; clear ha
  go_enter Tryz.func99, Tryz.ntmps99
  go_wp2
  go_loopw [5] (fun i wr => GoRel L ⟨l, b⟩ w.heap.size w i wr) (fun i _ => L.length - (intOf i).toNat)
  case atStart => exact ⟨0, by omega, rfl, fun j hj => by omega, box0 .., box1 .., (Fr.refl _ _).alloc _⟩
  case round =>
    obtain ⟨k, hk, rfl, hno, p0, p1, hf⟩ := hrel
    dsimp only at p0 p1
    have HNO := Lib.hid hno; clear hno; have HF := Lib.hid hf; clear hf
    by_cases hkk : k < L.length
    · obtain ⟨b0, o0, rfl, c0, c1, c2⟩ := (HA.out.keep0 HF.out) k hkk
      generalize hr : Tb.nth L k = r at *
      obtain ⟨⟨x, y⟩, z⟩ := r
      dsimp only at c0 c1 c2
      have HR := Lib.hid hr; clear hr
      have hki : (k : Int) < (L.length : Int) := by omega
      by_cases q1 : x = l ∧ y = b
      · obtain ⟨rfl, rfl⟩ := q1
        by_cases hok : Tb.ok ⟨x, y⟩
        · have hd := decide_eq_true hok
          have E := Lib.hid (ret_int (k := .i64) (get_at hkk HNO.out (by rw [HR.out]) hok).symm)
          rw [HR.out] at E
          dsimp only at E
          have HD := Lib.hid hd; clear hd; have HOK := Lib.hid hok; clear hok
          go_wp2
          go_region_held3 (fun W => W.cell? ⟨b0, o0 + k * 3, none⟩ = some (.int .i64 x) ∧ W.cell? ⟨b0, o0 + k * 3 + 1, none⟩ = some (.int .i64 y) ∧ W.cell? ⟨w.heap.size, 0, none⟩ = some (.int .i64 x) ∧ W.cell? ⟨w.heap.size, 1, none⟩ = some (.int .i64 y))
            (first | exact ⟨s0, s1, t0, t1⟩ | exact ⟨c0, c1, p0, p1⟩)
            (first | (go_at_call 57; have hh := HF.out; clear hh; go_must (refine (IsPrefix_any _ _ _).mono ?_); go_must (rw [HD.out]); go_must (rintro e w2 ⟨rfl, hf⟩); go_must (have s0 := cell_fr' hf c0 (fun h => h)); go_must (have s1 := cell_fr' hf c1 (fun h => h)); go_must (have s2 := cell_fr' hf c2 (fun h => h)); go_must (have t0 := cell_fr' hf p0 (fun h => h)); go_must (have t1 := cell_fr' hf p1 (fun h => h)); go_must (have HF1 := Lib.hid (HF.out.drew.trans hf)); go_must (clear hf)))
          all_goals (
            go_wp2
            go_ret
            exact ⟨E.out, HF1.out⟩)
        · have hd := decide_eq_false hok
          have HD := Lib.hid hd; clear hd; have HOK := Lib.hid hok; clear hok
          go_wp2
          go_region_held3 (fun W => W.cell? ⟨b0, o0 + k * 3, none⟩ = some (.int .i64 x) ∧ W.cell? ⟨b0, o0 + k * 3 + 1, none⟩ = some (.int .i64 y) ∧ W.cell? ⟨w.heap.size, 0, none⟩ = some (.int .i64 x) ∧ W.cell? ⟨w.heap.size, 1, none⟩ = some (.int .i64 y))
            (first | exact ⟨s0, s1, t0, t1⟩ | exact ⟨c0, c1, p0, p1⟩)
            (first | (go_at_call 57; have hh := HF.out; clear hh; go_must (refine (IsPrefix_any _ _ _).mono ?_); go_must (rw [HD.out]); go_must (rintro e w2 ⟨rfl, hf⟩); go_must (have s0 := cell_fr' hf c0 (fun h => h)); go_must (have s1 := cell_fr' hf c1 (fun h => h)); go_must (have s2 := cell_fr' hf c2 (fun h => h)); go_must (have t0 := cell_fr' hf p0 (fun h => h)); go_must (have t1 := cell_fr' hf p1 (fun h => h)); go_must (have HF1 := Lib.hid (HF.out.drew.trans hf)); go_must (clear hf)))
          all_goals (
            go_wp2
            go_roundw
            case rel => exact ⟨k + 1, by omega, by go_num, fun j hj => by
              by_cases e : j = k
              · exact fun h => HOK.out h.2
              · exact HNO.out j (by omega), t0, t1, HF1.out⟩
            case measure => simp [intOf]; omega)
      · have hne : ∀ j, j < k + 1 → ¬ ((Tb.nth L j).p = ⟨l, b⟩ ∧ Tb.ok ⟨l, b⟩) := fun j hj => by
          by_cases e : j = k
          · rw [e, HR.out]
            intro h
            have h := h.1
            simp only [Tb.Pf.mk.injEq] at h
            exact q1 h
          · exact HNO.out j (by omega)
        have HNE := Lib.hid hne; clear hne
        by_cases q2 : x = l
        · have hb : (y == b) = false := by simp; exact fun h => q1 ⟨q2, h⟩
          clear q1 q2
          go_wp2
          go_quiet (fail)
          go_wp2
          go_roundw
          case rel => exact ⟨k + 1, by omega, by go_num, HNE.out, p0, p1, HF.out.drewN _⟩
          case measure => simp [intOf]; omega
        · have hb : (x == l) = false := by simpa using q2
          clear q1 q2
          go_wp2
          go_quiet (fail)
          go_wp2
          go_roundw
          case rel => exact ⟨k + 1, by omega, by go_num, HNE.out, p0, p1, HF.out.drewN _⟩
          case measure => simp [intOf]; omega
    · have E := Lib.hid (ret_int (k := .i64) (get_end hkk HNO.out).symm)
      go_wp2
      go_ret
      exact ⟨E.out, HF.out⟩

def LookRel (L : List Tb.Rt) (a : Int) (w : World) (h i : Value) (wr : World) : Prop := ∃ k : Nat, k ≤ L.length ∧ i = .int .i64 k ∧ h = .int .i64 (Tb.look (L.take k) a) ∧ Fr NoB w wr
set_option maxRecDepth 100000 in
set_option maxHeartbeats 4000000 in
theorem Look_any (t : Nat) (a : Option Addr) (c : Nat) (L : List Tb.Rt) (x : Int) (w : World) (hl : L.length ≤ 1000) (ha : Rs w a L) (hc : w.cell? ⟨t, 0, none⟩ = some (.slice a L.length c)) :
    Calls Tryz.prog 24 #[.pointer (some ⟨t, 0, none⟩), .int .i64 x] w (IntFr (Tb.look L x) w) := by
  have HA := Lib.hid ha; clear ha
  go_enter Tryz.func24, Tryz.ntmps24
  go_wp2
  go_loopw [5, 13] (fun h i wr => LookRel L x w h i wr) (fun _ i _ => L.length - (intOf i).toNat)
  case atStart => exact ⟨0, by omega, rfl, by rw [List.take_zero]; rfl, Fr.refl _ _⟩
  case round =>
    obtain ⟨k, hk, rfl, rfl, hf⟩ := hrel
    have HF := Lib.hid hf; clear hf
    by_cases hkk : k < L.length
    · obtain ⟨b0, o0, rfl, c0, c1, c2⟩ := (HA.out.keep0 HF.out) k hkk
      have hst : Tb.look (L.take (k + 1)) x = Tb.lookF x (Tb.look (L.take k) x) (Tb.nth L k) := by rw [Tb.take_succ hkk, Tb.look_app]
      generalize hr : Tb.nth L k = r at *
      obtain ⟨⟨l, b⟩, h⟩ := r
      dsimp only at c0 c1 c2
      have HST := Lib.hid hst; clear hst
      clear hr
      have hki : (k : Int) < (L.length : Int) := by omega
      go_upto_region 5 with fail
      refine wp_name fun w1 hw1 => ?_
      have d0 : w1.cell? ⟨wr.heap.size, 0, none⟩ = some (.int .i64 l) := by rw [hw1]; simp
      have d1 : w1.cell? ⟨wr.heap.size, 1, none⟩ = some (.int .i64 b) := by rw [hw1]; simp
      have d2 : w1.cell? ⟨wr.heap.size, 2, none⟩ = some (.int .i64 h) := by rw [hw1]; simp
      have hF : Fr NoB wr w1 := by rw [hw1]; (repeat (first | exact Fr.refl _ _ | refine Fr.alloc ?_ _ | refine Fr.setNew ?_ (by omega) _ _ | refine Fr.drewN ?_ _ | refine Fr.drew ?_))
      clear hw1 c0 c1 c2
      have HF1 := Lib.hid (HF.out.trans hF)
      clear hF
      by_cases hh : Tb.has ⟨l, b⟩ x
      · have hd := decide_eq_true hh
        have hst := HST.out
        unfold Tb.lookF at hst
        rw [if_pos hh] at hst
        dsimp only at hst
        clear HST
        have HD := Lib.hid hd; clear hd; have HH := Lib.hid hh; clear hh; have HST := Lib.hid hst; clear hst
        go_wp2_with fail
        refine (Has_any _ _ _ _).mono ?_
        rw [HD.out]
        rintro e w2 ⟨rfl, hf⟩
        have d2 := cell_fr' hf d2 (fun h => h)
        have HF2 := Lib.hid (HF1.out.trans hf)
        clear hf
        go_wp2
        go_roundw
        case rel => exact ⟨k + 1, by omega, by go_num, by rw [HST.out], HF2.out⟩
        case measure => simp [intOf]; omega
      · have hd := decide_eq_false hh
        have hst := HST.out
        unfold Tb.lookF at hst
        rw [if_neg hh] at hst
        clear HST
        have HD := Lib.hid hd; clear hd; have HH := Lib.hid hh; clear hh; have HST := Lib.hid hst; clear hst
        go_wp2_with fail
        refine (Has_any _ _ _ _).mono ?_
        rw [HD.out]
        rintro e w2 ⟨rfl, hf⟩
        have HF2 := Lib.hid (HF1.out.trans hf)
        clear hf
        go_wp2
        go_roundw
        case rel => exact ⟨k + 1, by omega, by go_num, by rw [HST.out], HF2.out⟩
        case measure => simp [intOf]; omega
    · have e : L.take k = L := List.take_of_length_le (by omega)
      rw [e]
      clear e
      go_wp2
      go_ret
      exact ⟨rfl, HF.out⟩

def LrRel (L : List Tb.Rt) (a : Int) (w : World) (h n i : Value) (wr : World) : Prop := ∃ k : Nat, k ≤ L.length ∧ i = .int .i64 k ∧ h = .int .i64 (Tb.lookR (L.take k) a).1 ∧ n = .int .i64 (Tb.lookR (L.take k) a).2 ∧ Fr NoB w wr
set_option maxRecDepth 100000 in
set_option maxHeartbeats 4000000 in
theorem RLook_any (a : Option Addr) (c : Nat) (L : List Tb.Rt) (x : Int) (w : World) (hl : L.length ≤ 1000) (ha : Rs w a L) :
    Calls Tryz.prog 17 #[.slice a L.length c, .int .i64 x] w (IntFr (Tb.lookR L x).1 w) := by
  have HA := Lib.hid ha; clear ha
  go_enter Tryz.func17, Tryz.ntmps17
  go_wp2
  go_loopw [5, 6, 7] (fun h n i wr => LrRel L x w h n i wr) (fun _ _ i _ => L.length - (intOf i).toNat)
  case atStart => exact ⟨0, by omega, rfl, by rw [List.take_zero]; rfl, by rw [List.take_zero]; rfl, Fr.refl _ _⟩
  case round =>
    obtain ⟨k, hk, rfl, rfl, rfl, hf⟩ := hrel
    have HF := Lib.hid hf; clear hf
    by_cases hkk : k < L.length
    · obtain ⟨b0, o0, rfl, c0, c1, c2⟩ := (HA.out.keep0 HF.out) k hkk
      have hst : Tb.lookR (L.take (k + 1)) x = Tb.lookG x (Tb.lookR (L.take k) x) (Tb.nth L k) := by rw [Tb.take_succ hkk, Tb.lookR_app]
      generalize hr : Tb.nth L k = r at *
      obtain ⟨⟨l, b⟩, h⟩ := r
      generalize Tb.lookR (L.take k) x = s at *
      obtain ⟨h0, n0⟩ := s
      dsimp only at c0 c1 c2
      clear hr
      unfold Tb.lookG at hst
      dsimp only at hst ⊢
      have hki : (k : Int) < (L.length : Int) := by omega
      by_cases hh : Tb.has ⟨l, b⟩ x
      · have hd := decide_eq_true hh
        by_cases hn : n0 < l
        · rw [if_pos ⟨hh, hn⟩] at hst
          have hnd := decide_eq_true hn
          have HD := Lib.hid hd; clear hd; have HH := Lib.hid hh; clear hh; have HST := Lib.hid hst; clear hst
          go_wp2_with fail
          refine (RHas_any _ _ _ _).mono ?_
          rw [HD.out]
          rintro e w2 ⟨rfl, hf⟩
          have c0 := cell_fr' hf c0 (fun h => h)
          have c2 := cell_fr' hf c2 (fun h => h)
          have HF2 := Lib.hid (HF.out.trans hf)
          clear hf
          go_wp2
          go_quiet (fail)
          go_wp2
          go_roundw
          case rel => exact ⟨k + 1, by omega, by go_num, by rw [HST.out], by rw [HST.out], HF2.out.drewN _⟩
          case measure => simp [intOf]; omega
        · rw [if_neg (fun h => hn h.2)] at hst
          have hnd := decide_eq_false hn
          have HD := Lib.hid hd; clear hd; have HH := Lib.hid hh; clear hh; have HST := Lib.hid hst; clear hst
          go_wp2_with fail
          refine (RHas_any _ _ _ _).mono ?_
          rw [HD.out]
          rintro e w2 ⟨rfl, hf⟩
          have c0 := cell_fr' hf c0 (fun h => h)
          have HF2 := Lib.hid (HF.out.trans hf)
          clear hf
          go_wp2
          go_roundw
          case rel => exact ⟨k + 1, by omega, by go_num, by rw [HST.out], by rw [HST.out], HF2.out⟩
          case measure => simp [intOf]; omega
      · have hd := decide_eq_false hh
        rw [if_neg (fun h => hh h.1)] at hst
        have HD := Lib.hid hd; clear hd; have HH := Lib.hid hh; clear hh; have HST := Lib.hid hst; clear hst
        go_wp2_with fail
        refine (RHas_any _ _ _ _).mono ?_
        rw [HD.out]
        rintro e w2 ⟨rfl, hf⟩
        have HF2 := Lib.hid (HF.out.trans hf)
        clear hf
        go_wp2
        go_roundw
        case rel => exact ⟨k + 1, by omega, by go_num, by rw [HST.out], by rw [HST.out], HF2.out⟩
        case measure => simp [intOf]; omega
    · have e : L.take k = L := List.take_of_length_le (by omega)
      rw [e]
      clear e
      go_wp2
      go_ret
      exact ⟨rfl, HF.out⟩

end Go.Proofs.YteedndapbfihaaaGreat
