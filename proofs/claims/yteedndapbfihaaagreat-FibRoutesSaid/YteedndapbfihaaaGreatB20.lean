/- Of a row of routes: where a prefix stands, or would stand. -/
import Derived.Test.YteedndapbfihaaaGreatB18
import Derived.Test.YteedndapbfihaaaGreatB19
namespace Go.Proofs.YteedndapbfihaaaGreat.Tb

def cmp (r p : Pf) : Int := if less r p then -1 else if less p r then 1 else 0
/-- A place ahead of which all are less, and behind which none is. -/
def Place (L : List Rt) (p : Pf) (i : Nat) : Prop := i ≤ L.length ∧ (∀ t, t < i → less (nth L t).p p) ∧ (∀ t, i ≤ t → t < L.length → ¬ less (nth L t).p p)
theorem place_lo {L : List Rt} {p : Pf} {i : Nat} (h : Place L p i) : lo L p = L.take i ∧ (lo L p).length = i := by
  have h1 : lo L p = L.take i := by
    unfold lo
    conv => lhs; rw [← List.take_append_drop i L]
    rw [List.filter_append]
    have e1 : (L.take i).filter (fun r => decide (less r.p p)) = L.take i := by
      rw [List.filter_eq_self]
      intro r hr
      obtain ⟨t, ht, rfl⟩ := List.getElem_of_mem hr
      have h2 := h.2.1 t (by simp at ht; omega)
      rw [nth_eq (by simp at ht; omega)] at h2
      simpa using h2
    have e2 : (L.drop i).filter (fun r => decide (less r.p p)) = [] := by
      rw [List.filter_eq_nil_iff]
      intro r hr
      obtain ⟨t, ht, rfl⟩ := List.getElem_of_mem hr
      have h2 := h.2.2 (i + t) (by omega) (by simp at ht; omega)
      rw [nth_eq (by simp at ht; omega)] at h2
      simpa using h2
    rw [e1, e2, List.append_nil]
  refine ⟨h1, ?_⟩
  rw [h1, List.length_take]
  have := h.1
  omega
theorem mono_less {L : List Rt} (h : Wf L) {p : Pf} {s t : Nat} (hst : s ≤ t) (ht : t < L.length) (hl : less (nth L t).p p) : less (nth L s).p p := by
  by_cases e : s = t
  · subst e; exact hl
  · have := List.pairwise_iff_getElem.1 h.2 s t (by omega) ht (by omega)
    rw [← nth_eq (by omega : s < L.length), ← nth_eq ht] at this
    exact less_trans this hl
theorem found_iff {L : List Rt} (h : Wf L) {p : Pf} {i : Nat} (hi : Place L p i) : (decide (i < L.length) && decide (cmp (nth L i).p p = 0)) = decide (get L p ≠ -2) := by
  by_cases hp : Tb.ok p
  · obtain ⟨e1, e2⟩ := place_lo hi
    rcases split_wf h hp with ⟨g1, g2, g3⟩ | ⟨g1, g2, g3⟩
    · rw [decide_eq_false (by simp [g1] : ¬ get L p ≠ -2)]
      by_cases hil : i < L.length
      · have h1 := hi.2.2 i (Nat.le_refl _) hil
        have h2 := g3 _ (nth_mem hil)
        have h3 : less p (nth L i).p := by
          by_cases k : less p (nth L i).p
          · exact k
          · exact absurd (less_total (h.ok (nth_mem hil)) hp h1 k) h2
        unfold cmp
        rw [if_neg h1, if_pos h3]
        simp
      · simp [hil]
    · rw [decide_eq_true g1]
      have hil : i < L.length := by
        have := congrArg List.length g3
        rw [List.length_append, List.length_cons, e2] at this
        omega
      have hn : nth L i = ⟨p, get L p⟩ := by
        have : L[i]? = some ⟨p, get L p⟩ := by
          conv => lhs; rw [g3]
          rw [List.getElem?_append_right (by omega), e2]; simp
        unfold nth; rw [List.getD_eq_getElem?_getD, this]; rfl
      rw [hn]
      unfold cmp
      simp [hil, less_irrefl]
  · rw [get_no hp]
    by_cases hil : i < L.length
    · have h1 := hi.2.2 i (Nat.le_refl _) hil
      have h3 : less p (nth L i).p := less_no hp (h.ok (nth_mem hil))
      unfold cmp
      rw [if_neg h1, if_pos h3]
      simp
    · simp [hil]
theorem found_nth {L : List Rt} (h : Wf L) {p : Pf} (hg : get L p ≠ -2) : Tb.ok p ∧ (lo L p).length < L.length ∧ nth L (lo L p).length = ⟨p, get L p⟩ ∧ lo L p = L.take (lo L p).length ∧ hi L p = L.drop ((lo L p).length + 1) := by
  have hp : Tb.ok p := by
    by_cases k : Tb.ok p
    · exact k
    · exact absurd (get_no k) hg
  rcases split_wf h hp with ⟨g1, _, _⟩ | ⟨_, _, g3⟩
  · exact absurd g1 hg
  · refine ⟨hp, ?_⟩
    generalize lo L p = A at *
    generalize hi L p = C at *
    generalize get L p = g at *
    subst g3
    refine ⟨by simp, ?_, by simp, by simp⟩
    unfold nth
    rw [List.getD_eq_getElem?_getD, List.getElem?_append_right (Nat.le_refl _)]
    simp
theorem notfound_split {L : List Rt} (h : Wf L) {p : Pf} (hp : Tb.ok p) (hg : get L p = -2) : lo L p = L.take (lo L p).length ∧ hi L p = L.drop (lo L p).length := by
  rcases split_wf h hp with ⟨_, g2, _⟩ | ⟨g1, _, _⟩
  · generalize lo L p = A at *
    generalize hi L p = C at *
    clear hg h
    subst g2
    exact ⟨by simp, by simp⟩
  · exact absurd hg g1
end Go.Proofs.YteedndapbfihaaaGreat.Tb
/- Walks: the comparison of (*Table).at, slices.BinarySearchFunc, (*Table).at. -/
namespace Go.Proofs.YteedndapbfihaaaGreat
open Go.RowKit Go.Deep

set_option maxHeartbeats 4000000 in
theorem cmp_any (l b h m c : Int) (w : World) :
    Calls Tryz.prog 86 #[.agg #[.int .i64 l, .int .i64 b, .int .i64 h], .agg #[.int .i64 m, .int .i64 c]] w (IntFr (Tb.cmp ⟨l, b⟩ ⟨m, c⟩) w) := by
  have key : ∃ r s : Bool, decide (Tb.less ⟨l, b⟩ ⟨m, c⟩) = r ∧ decide (Tb.less ⟨m, c⟩ ⟨l, b⟩) = s ∧ Tb.cmp ⟨l, b⟩ ⟨m, c⟩ = if r then -1 else if s then 1 else 0 := by
    refine ⟨_, _, rfl, rfl, ?_⟩
    unfold Tb.cmp
    simp only [decide_eq_true_eq]
  obtain ⟨r, s, h1, h2, h3⟩ := key
  have H1 := Lib.hid h1; clear h1; have H2 := Lib.hid h2; clear h2
  have HC := Lib.hid (ret_int (k := .i64) h3.symm)
  clear h3
  go_enter Tryz.func86, Tryz.ntmps86
  go_upto_region 1 with fail
  refine wp_name fun w1 hw1 => ?_
  have c0 : w1.cell? ⟨w.heap.size, 0, none⟩ = some (.int .i64 l) := by rw [hw1]; simp
  have c1 : w1.cell? ⟨w.heap.size, 1, none⟩ = some (.int .i64 b) := by rw [hw1]; simp
  have d0 : w1.cell? ⟨w.heap.size + 1, 0, none⟩ = some (.int .i64 m) := by rw [hw1]; simp
  have d1 : w1.cell? ⟨w.heap.size + 1, 1, none⟩ = some (.int .i64 c) := by rw [hw1]; simp
  have hF : Fr NoB w w1 := by rw [hw1]; (repeat (first | exact Fr.refl _ _ | refine Fr.alloc ?_ _ | refine Fr.setNew ?_ (by omega) _ _ | refine Fr.drewN ?_ _ | refine Fr.drew ?_))
  clear hw1
  have HF := Lib.hid hF; clear hF
  go_wp2_with fail
  refine (Less_any l b m c _).mono ?_
  rw [H1.out]
  rintro e w2 ⟨rfl, hf⟩
  have c0 := cell_fr' hf c0 (fun h => h)
  have c1 := cell_fr' hf c1 (fun h => h)
  have d0 := cell_fr' hf d0 (fun h => h)
  have d1 := cell_fr' hf d1 (fun h => h)
  have HF1 := Lib.hid (HF.out.trans hf)
  clear hf
  cases r with
  | true =>
    go_wp2
    go_ret
    exact ⟨HC.out, HF1.out⟩
  | false =>
    go_wp2_with fail
    refine (Less_any m c l b _).mono ?_
    rw [H2.out]
    rintro e w3 ⟨rfl, hf⟩
    have HF2 := Lib.hid (HF1.out.trans hf)
    clear hf
    cases s with
    | true =>
      go_wp2
      go_ret
      exact ⟨HC.out, HF2.out⟩
    | false =>
      go_wp2
      go_ret
      exact ⟨HC.out, HF2.out⟩
def BsPost (L : List Tb.Rt) (p : Tb.Pf) (w : World) (e : Ending) (w' : World) : Prop :=
  ∃ i : Nat, e = .returned (.tuple #[.int .i64 i, .bool (decide (i < L.length) && decide (Tb.cmp (Tb.nth L i).p p = 0))]) ∧ Tb.Place L p i ∧ Fr NoB w w'
def BsRel (L : List Tb.Rt) (p : Tb.Pf) (b : Nat) (w : World) (lo hi : Nat) (wr : World) : Prop :=
  (∀ t, t < lo → Tb.less (Tb.nth L t).p p) ∧ (∀ t, hi ≤ t → t < L.length → ¬ Tb.less (Tb.nth L t).p p) ∧ wr.cell? ⟨b, 0, none⟩ = some (.int .i64 p.len) ∧ wr.cell? ⟨b, 1, none⟩ = some (.int .i64 p.bits) ∧ Fr NoB w wr
theorem cmp_neg (r p : Tb.Pf) : (Tb.cmp r p < 0) ↔ Tb.less r p := by
  unfold Tb.cmp
  split
  · simp [*]
  · split <;> simp [*]
set_option maxRecDepth 100000 in
set_option maxHeartbeats 4000000 in
theorem Bs_any (a : Option Addr) (c : Nat) (L : List Tb.Rt) (l b : Int) (w : World) (hl : L.length ≤ 1000) (ha : Rs w a L) (hm : ∀ s t, s ≤ t → t < L.length → Tb.less (Tb.nth L t).p ⟨l, b⟩ → Tb.less (Tb.nth L s).p ⟨l, b⟩) :
    Calls Tryz.prog 85 #[.slice a L.length c, .agg #[.int .i64 l, .int .i64 b], .func (.func 86) #[] #[]] w (BsPost L ⟨l, b⟩ w) := by
  have HA := Lib.hid ha; clear ha; have HM := Lib.hid hm; clear hm
  go_enter Tryz.func85, Tryz.ntmps85
  go_wp2
  go_loopg [9, 10] L.length (fun kx s9 s10 wr => ∃ lo hi : Nat, s9 = .int .i64 lo ∧ s10 = .int .i64 hi ∧ lo ≤ hi ∧ hi ≤ L.length ∧ hi - lo ≤ kx ∧ Hid (BsRel L ⟨l, b⟩ w.heap.size w lo hi wr))
  case atStart => exact ⟨0, L.length, rfl, rfl, Nat.zero_le _, Nat.le_refl _, by omega, ⟨fun t ht => absurd ht (Nat.not_lt_zero _), fun t h1 h2 => by omega, box0 .., box1 .., (Fr.refl _ _).alloc _⟩⟩
  case round =>
    obtain ⟨lo, hi, rfl, rfl, hlh, hin, hg, HR⟩ := hrel
    have p0 := HR.out.2.2.1
    have p1 := HR.out.2.2.2.1
    have HF := Lib.hid HR.out.2.2.2.2
    dsimp only at p0 p1
    by_cases hlt : lo < hi
    · obtain ⟨mi, hmi⟩ : ∃ mi, mi = (lo + hi) / 2 := ⟨_, rfl⟩
      have hmm : ((lo : Int) + (hi : Int)) / 2 = (mi : Int) := by omega
      have hm1 : lo ≤ mi := by omega
      have hm2 : mi < hi := by omega
      have hmn : mi < L.length := by omega
      clear hmi
      obtain ⟨b0, o0, rfl, c0, c1, c2⟩ := (HA.out.keep0 HF.out) mi hmn
      generalize hr : Tb.nth L mi = r at *
      obtain ⟨⟨x, y⟩, z⟩ := r
      dsimp only at c0 c1 c2
      have HQ := Lib.hid hr; clear hr
      have i1 : (mi : Int) < (L.length : Int) := by omega
      have hi2 : (hi : Int) ≤ 1000 := by omega
      have HMM := Lib.hid hmm; clear hmm
      go_upto_region 5 with fail
      rw [HMM.out]
      generalize hcm : Tb.cmp ⟨x, y⟩ ⟨l, b⟩ = cv
      have HCM := Lib.hid hcm; clear hcm
      have hcv : cv = -1 ∨ cv = 1 ∨ cv = 0 := by rw [← HCM.out]; unfold Tb.cmp; split; simp; split <;> simp
      have HCV := Lib.hid hcv; clear hcv
      go_region_held3 (fun W => W.cell? ⟨b0, o0 + mi * 3, none⟩ = some (.int .i64 x) ∧ W.cell? ⟨b0, o0 + mi * 3 + 1, none⟩ = some (.int .i64 y) ∧ W.cell? ⟨b0, o0 + mi * 3 + 2, none⟩ = some (.int .i64 z) ∧ W.cell? ⟨w.heap.size, 0, none⟩ = some (.int .i64 l) ∧ W.cell? ⟨w.heap.size, 1, none⟩ = some (.int .i64 b))
        (first | exact ⟨s0, s1, s2, t0, t1⟩ | exact ⟨c0, c1, c2, p0, p1⟩)
        (first | (go_at_call 86; have hh := HF.out; clear hh; go_must (refine (cmp_any _ _ _ _ _ _).mono ?_); go_must (rintro e w2 ⟨rfl, hf⟩); go_must (rw [HCM.out]); go_must (have s0 := cell_fr' hf c0 (fun h => h)); go_must (have s1 := cell_fr' hf c1 (fun h => h)); go_must (have s2 := cell_fr' hf c2 (fun h => h)); go_must (have t0 := cell_fr' hf p0 (fun h => h)); go_must (have t1 := cell_fr' hf p1 (fun h => h)); go_must (have HF1 := Lib.hid (HF.out.drew.trans hf)); go_must (clear hf)))
      have hless : cv < 0 ↔ Tb.less ⟨x, y⟩ ⟨l, b⟩ := by rw [← HCM.out]; exact cmp_neg _ _
      by_cases hc0 : cv < 0
      · have hd := decide_eq_true hc0
        have HL := Lib.hid (hless.1 hc0)
        clear hless
        go_wp2
        go_roundg (hi - (mi + 1))
        case measure => omega
        case rel =>
          exact ⟨mi + 1, hi, by rw [show ((mi : Int) + 1) = ((mi + 1 : Nat) : Int) by omega], rfl, by omega, hin, Nat.le_refl _, ⟨fun t ht => HM.out t mi (by omega) (by omega) (by rw [HQ.out]; exact HL.out), HR.out.2.1, t0, t1, HF1.out⟩⟩
      · have hd := decide_eq_false hc0
        have HL := Lib.hid (fun h => hc0 (hless.2 h))
        clear hless
        go_wp2
        go_roundg (mi - lo)
        case measure => omega
        case rel =>
          exact ⟨lo, mi, rfl, rfl, by omega, by omega, Nat.le_refl _, ⟨HR.out.1, fun t h1 h2 h3 => HL.out (by have := HM.out mi t h1 h2 h3; rwa [HQ.out] at this), t0, t1, HF1.out⟩⟩
    · obtain rfl : hi = lo := by omega
      have hpl : Tb.Place L ⟨l, b⟩ hi := ⟨hin, HR.out.1, HR.out.2.1⟩
      have HP := Lib.hid hpl; clear hpl
      by_cases hn : hi < L.length
      · obtain ⟨b0, o0, rfl, c0, c1, c2⟩ := (HA.out.keep0 HF.out) hi hn
        generalize hr : Tb.nth L hi = r at *
        obtain ⟨⟨x, y⟩, z⟩ := r
        dsimp only at c0 c1 c2
        generalize hcm : Tb.cmp ⟨x, y⟩ ⟨l, b⟩ = cv
        have hcv : cv = -1 ∨ cv = 1 ∨ cv = 0 := by rw [← hcm]; unfold Tb.cmp; split; simp; split <;> simp
        have he : (decide (hi < L.length) && decide (Tb.cmp (Tb.nth L hi).p ⟨l, b⟩ = 0)) = (cv == 0) := by
          rw [hr, decide_eq_true hn, Bool.true_and]
          show decide (Tb.cmp ⟨x, y⟩ ⟨l, b⟩ = 0) = _
          rw [hcm]
          rcases hcv with rfl | rfl | rfl <;> rfl
        have HE := Lib.hid he; clear he hr hcv
        have HCM := Lib.hid hcm; clear hcm
        have hni : (hi : Int) < (L.length : Int) := by omega
        have hnd := decide_eq_true hni
        go_wp2
        go_region_held3 (fun W => W.cell? ⟨b0, o0 + hi * 3, none⟩ = some (.int .i64 x) ∧ W.cell? ⟨b0, o0 + hi * 3 + 1, none⟩ = some (.int .i64 y) ∧ W.cell? ⟨b0, o0 + hi * 3 + 2, none⟩ = some (.int .i64 z) ∧ W.cell? ⟨w.heap.size, 0, none⟩ = some (.int .i64 l) ∧ W.cell? ⟨w.heap.size, 1, none⟩ = some (.int .i64 b))
          (first | exact ⟨s0, s1, s2, t0, t1⟩ | exact ⟨c0, c1, c2, p0, p1⟩)
          (first | (go_at_call 86; have hh := HF.out; clear hh; go_must (refine (cmp_any _ _ _ _ _ _).mono ?_); go_must (rintro e w2 ⟨rfl, hf⟩); go_must (rw [HCM.out]); go_must (have s0 := cell_fr' hf c0 (fun h => h)); go_must (have s1 := cell_fr' hf c1 (fun h => h)); go_must (have s2 := cell_fr' hf c2 (fun h => h)); go_must (have t0 := cell_fr' hf p0 (fun h => h)); go_must (have t1 := cell_fr' hf p1 (fun h => h)); go_must (have HF1 := Lib.hid (HF.out.drew.trans hf)); go_must (clear hf)))
        all_goals (
          go_wp2
          refine bodyPost_ret (v := .tuple #[.int .i64 hi, .bool (cv == 0)]) ?_ rfl ⟨hi, by rw [HE.out], HP.out, HF1.out⟩
          simp [results, Tryz.results85, go_sem])
      · have he : (decide (hi < L.length) && decide (Tb.cmp (Tb.nth L hi).p ⟨l, b⟩ = 0)) = false := by simp [hn]
        have HE := Lib.hid he; clear he
        have hni : ¬ (hi : Int) < (L.length : Int) := by omega
        have hnd := decide_eq_false hni
        go_wp2
        go_quiet (fail)
        go_wp2
        refine bodyPost_ret (v := .tuple #[.int .i64 hi, .bool false]) ?_ rfl ⟨hi, by rw [HE.out], HP.out, HF.out.drewN _⟩
        simp [results, Tryz.results85, go_sem]
def AtPost (L : List Tb.Rt) (p : Tb.Pf) (w : World) (e : Ending) (w' : World) : Prop :=
  e = .returned (.tuple #[.int .i64 ((Tb.lo L p).length : Nat), .bool (decide (Tb.get L p ≠ -2))]) ∧ Fr NoB w w'
set_option maxRecDepth 100000 in
set_option maxHeartbeats 4000000 in
theorem at_any (t : Nat) (a : Option Addr) (c : Nat) (L : List Tb.Rt) (l b : Int) (w : World) (hl : L.length ≤ 1000) (hw : Tb.Wf L) (ha : Rs w a L) (hc : w.cell? ⟨t, 0, none⟩ = some (.slice a L.length c)) :
    Calls Tryz.prog 54 #[.pointer (some ⟨t, 0, none⟩), .agg #[.int .i64 l, .int .i64 b]] w (AtPost L ⟨l, b⟩ w) := by
  have HA := Lib.hid ha; clear ha; have HW := Lib.hid hw; clear hw
  go_enter Tryz.func54, Tryz.ntmps54
  go_upto_region 1 with fail
  refine wp_name fun w1 hw1 => ?_
  have c0 : w1.cell? ⟨w.heap.size, 0, none⟩ = some (.int .i64 l) := by rw [hw1]; simp
  have c1 : w1.cell? ⟨w.heap.size, 1, none⟩ = some (.int .i64 b) := by rw [hw1]; simp
  have hF : Fr NoB w w1 := by rw [hw1]; (repeat (first | exact Fr.refl _ _ | refine Fr.alloc ?_ _ | refine Fr.setNew ?_ (by omega) _ _ | refine Fr.drewN ?_ _ | refine Fr.drew ?_))
  have c2 := cell_fr' hF hc (fun h => h)
  clear hw1
  have HF := Lib.hid hF; clear hF
  go_region_held3 (fun W => W.cell? ⟨t, 0, none⟩ = some (.slice a L.length c) ∧ W.cell? ⟨w.heap.size, 0, none⟩ = some (.int .i64 l) ∧ W.cell? ⟨w.heap.size, 1, none⟩ = some (.int .i64 b))
    (first | exact ⟨t0, t1, t2⟩ | exact ⟨c2, c0, c1⟩)
    (first | (go_at_call 85; have hh := HF.out; clear hh; go_must (refine (Bs_any a c L l b _ hl (Rs.keep0 (Rs.keep0 HA.out HF.out) (Fr.drew (Fr.refl _ _))) (fun s t h1 h2 h3 => Tb.mono_less HW.out h1 h2 h3)).mono ?_); go_must (rintro e w2 ⟨i, rfl, hpl, hf⟩); go_must (have t0 := cell_fr' hf c2 (fun h => h)); go_must (have t1 := cell_fr' hf c0 (fun h => h)); go_must (have t2 := cell_fr' hf c1 (fun h => h)); go_must (have HF1 := Lib.hid (HF.out.drew.trans hf)); go_must (have HP := Lib.hid hpl); go_must (clear hf hpl)))
  all_goals (
    have he : Ending.returned (.tuple #[.int .i64 (i : Nat), .bool (decide (i < L.length) && decide (Tb.cmp (Tb.nth L i).p ⟨l, b⟩ = 0))]) = .returned (.tuple #[.int .i64 ((Tb.lo L ⟨l, b⟩).length : Nat), .bool (decide (Tb.get L ⟨l, b⟩ ≠ -2))]) := by
      rw [(Tb.place_lo HP.out).2, Tb.found_iff HW.out HP.out]
    have HE := Lib.hid he; clear he
    generalize (decide (i < L.length) && decide (Tb.cmp (Tb.nth L i).p ⟨l, b⟩ = 0)) = bb at *
    go_wp2
    refine bodyPost_ret (v := .tuple #[.int .i64 i, .bool bb]) ?_ rfl ⟨HE.out, HF1.out⟩
    simp [results, Tryz.results54, go_sem])
end Go.Proofs.YteedndapbfihaaaGreat
