/- Walks: SetOf of the document's own answer, where it sets. -/
import Derived.Test.YteedndapbfihaaaGreatB22
namespace Go.Proofs.YteedndapbfihaaaGreat
open Go.RowKit Go.Deep

theorem cell_alloc {w : World} {b o : Nat} {v : Value} (h : w.cell? ⟨b, o, none⟩ = some v) (ob : Obj) : (w.alloc ob).cell? ⟨b, o, none⟩ = some v := cell_fr' ((Fr.refl NoB w).alloc ob) h (fun h => h)
theorem news3 (w : World) (r : Tb.Rt) : ∀ (j : Nat) (u : Value), (rt3 r)[j]? = some u → (w.alloc (.cells #[.int .i64 r.p.len, .int .i64 r.p.bits, .int .i64 r.hop] 87)).cell? ((⟨w.heap.size, 0, none⟩ : Addr).add j) = some u := by
  intro j u hj
  rw [add_base]
  match j, hj with
  | 0, hj => cases hj; simp
  | 1, hj => cases hj; simp
  | 2, hj => cases hj; simp
theorem base_alloc {w wX : World} (h : w.heap.size ≤ wX.heap.size) (o : Obj) : w.heap.size + 1 ≤ (wX.alloc o).heap.size := by simp; exact h
theorem SlR.app {w : World} {base : Nat} {v : Value} {T : List Tb.Rt} {r : Tb.Rt} (h : w.ownsRow base 87 3 v (T.length + 1) ((rtI T).map (Value.int .i64) ++ rt3 r)) : SlR w base v (T ++ [r]) := by
  unfold SlR
  rw [List.length_append, rtI_app, List.map_append, rtI_one]
  exact h
theorem SlR.keep {S : Nat → Prop} {w w' : World} {base : Nat} {v : Value} {L : List Tb.Rt} (h : SlR w base v L) (hf : Fr S w w') (hS : ∀ g, v.ownBlock = some g → ¬ S g) : SlR w' base v L := own_keep h hf hS
theorem SlR.base {w : World} {b1 b2 : Nat} {v : Value} {L : List Tb.Rt} (h : SlR w b1 v L) (hb : b2 ≤ b1) : SlR w b2 v L := by
  refine ⟨h.1, ?_⟩
  rcases h.2 with h | ⟨g, cap, cur, h1, h2, h3⟩
  · exact .inl h
  · exact .inr ⟨g, cap, cur, h1, Nat.le_trans hb h2, h3⟩
def SoRel (L : List Tb.Rt) (p : Tb.Pf) (hop : Int) (w : World) (o pt i : Value) (wr : World) : Prop :=
  ∃ k : Nat, k ≤ L.length ∧ i = .int .i64 k ∧ SlR wr (w.heap.size + 1) o (Tb.soF (L.take k) p hop).1 ∧ pt = .bool (Tb.soF (L.take k) p hop).2 ∧
    wr.cell? ⟨w.heap.size, 0, none⟩ = some (.int .i64 p.len) ∧ wr.cell? ⟨w.heap.size, 1, none⟩ = some (.int .i64 p.bits) ∧ Fr NoB w wr
def SoOk (L : List Tb.Rt) (p : Tb.Pf) (hop : Int) (w : World) (e : Ending) (w' : World) : Prop :=
  ∃ v, e = .returned (.tuple #[v, .int .i64 0]) ∧ SlR w' w.heap.size v (Tb.soEnd (Tb.soF L p hop) p hop) ∧ Fr NoB w w'
set_option maxRecDepth 100000 in
set_option maxHeartbeats 8000000 in
theorem SetOf_del (a : Option Addr) (c : Nat) (L : List Tb.Rt) (l b hop : Int) (w : World) (hl : L.length ≤ 1000) (ha : Rs w a L) (hok : Tb.ok ⟨l, b⟩) (h2 : hop = -2) (hg : Tb.get L ⟨l, b⟩ ≠ -2) :
    Calls Tryz.prog 73 #[.slice a L.length c, .agg #[.int .i64 l, .int .i64 b], .int .i64 hop] w (SoOk L ⟨l, b⟩ hop w) := by
  have hd := decide_eq_true hok
  have hbg : (Tb.get L ⟨l, b⟩ == -2) = false := by simpa using hg
  have HPT : Hid (Value.bool true = .bool (Tb.soF [] ⟨l, b⟩ hop).2) := by subst h2; rfl
  generalize hgv : Tb.get L ⟨l, b⟩ = gv at *
  have HG := Lib.hid hgv
  clear hgv
  have hbh : (hop == -2) = true := by simpa using h2
  have hbh2 : (hop != -2) = false := by simpa using h2
  have HD := Lib.hid hd; clear hd; have HOK := Lib.hid hok; clear hok; have HA := Lib.hid ha; clear ha
  clear h2 hg
  go_enter Tryz.func73, Tryz.ntmps73
  go_wp2_with fail
  refine (IsPrefix_any l b _).mono ?_
  rw [HD.out]
  rintro e w1 ⟨rfl, hf⟩
  have c0 := cell_fr' hf (box0 w (.int .i64 l) (.int .i64 b) 53) (fun h => h)
  have c1 := cell_fr' hf (box1 w (.int .i64 l) (.int .i64 b) 53) (fun h => h)
  have HF1 := Lib.hid (((Fr.refl NoB w).alloc _).trans hf)
  clear hf
  go_wp2_with fail
  refine (GetOf_any a c L l b _ hl (HA.out.keep0 HF1.out)).mono ?_
  rw [HG.out]
  rintro e w3 ⟨rfl, hf⟩
  have c0 := cell_fr' hf c0 (fun h => h)
  have c1 := cell_fr' hf c1 (fun h => h)
  have HF3 := Lib.hid (HF1.out.trans hf)
  clear hf HF1
  go_wp2
  go_loopw [9, 10, 11] (fun o pt i wr => SoRel L ⟨l, b⟩ hop w o pt i wr) (fun _ _ i _ => L.length - (intOf i).toNat)
  case atStart => exact ⟨0, by omega, rfl, by rw [List.take_zero]; exact SlR.nil _ _, by rw [List.take_zero]; exact HPT.out, c0, c1, HF3.out⟩
  case round =>
    clear c0 c1 HF3
    obtain ⟨k, hk, rfl, ho, rfl, p0, p1, hf⟩ := hrel
    dsimp only at p0 p1
    have hbs : w.heap.size < wr.heap.size := World.block_lt_of_cell? wr _ p0
    have HBS := Lib.hid hbs
    have HF := Lib.hid hf; clear hf; have HO := Lib.hid ho; clear ho
    clear hbs
    have hsl := Tb.soF_len ⟨l, b⟩ hop k (L.take k) (by rw [List.length_take]; omega)
    by_cases hkk : k < L.length
    · have hblk : ∀ p, a = some p → p.block < w.heap.size := fun p hp => by
        obtain ⟨b0, o0, e, c0, _⟩ := HA.out k hkk
        rw [hp] at e
        cases e
        exact World.block_lt_of_cell? w ⟨b0, o0 + k * 3, none⟩ c0
      obtain ⟨b0, o0, rfl, c0, c1, c2⟩ := (HA.out.keep0 HF.out) k hkk
      have hb0 := hblk _ rfl
      dsimp only at hb0
      have hst : Tb.soF (L.take (k + 1)) ⟨l, b⟩ hop = Tb.stS ⟨l, b⟩ hop (Tb.soF (L.take k) ⟨l, b⟩ hop) (Tb.nth L k) := by rw [Tb.take_succ hkk, Tb.soF_app]
      generalize hr : Tb.nth L k = r at *
      obtain ⟨⟨x, y⟩, z⟩ := r
      generalize hss : Tb.soF (L.take k) ⟨l, b⟩ hop = s at *
      obtain ⟨T, pb⟩ := s
      dsimp only at c0 c1 c2 hsl HO ⊢
      have HSL : Hid (T.length ≤ 2000) := by show T.length ≤ 2000; omega
      have HB0 := Lib.hid hb0
      clear hr hss hblk hb0 hsl
      unfold Tb.stS at hst
      dsimp only at hst
      have hki : (k : Int) < (L.length : Int) := by omega
      by_cases q : x = l ∧ y = b
      · obtain ⟨rfl, rfl⟩ := q
        rw [if_pos rfl] at hst
        have HST := Lib.hid hst; clear hst
        go_wp2
        go_quiet (fail)
        go_wp2
        go_roundw
        case rel => exact ⟨k + 1, by omega, by go_num, by rw [HST.out]; exact own_keep HO.out ((Fr.refl NoB _).drewN _) (fun _ _ h => h), by rw [HST.out], p0, p1, HF.out.drewN _⟩
        case measure => simp [intOf]; omega
      · rw [if_neg (fun e => q (by simp only [Tb.Pf.mk.injEq] at e; exact e))] at hst
        have hq : (x == l) = false ∨ (x == l) = true ∧ (y == b) = false := by
          by_cases q1 : x = l
          · exact .inr ⟨by simpa using q1, by simp; exact fun e => q ⟨q1, e⟩⟩
          · exact .inl (by simpa using q1)
        clear q
        rcases hq with hq | ⟨hq1, hq⟩
        · cases pb with
          | true =>
            rw [if_neg (by simp)] at hst
            have HST := Lib.hid hst; clear hst
            go_wp2
            go_quiet (fail)
            go_wp2
            go_quiet (fail)
            go_upto_region 17 with fail
            refine wp_name fun w3 hw3 => ?_
            have hF : Fr NoB wr w3 := by rw [hw3]; (repeat (first | exact Fr.refl _ _ | refine Fr.alloc ?_ _ | refine Fr.setNew ?_ (by omega) _ _ | refine Fr.drewN ?_ _ | refine Fr.drew ?_))
            have s0 := cell_fr' hF c0 (fun h => h)
            have s1 := cell_fr' hF c1 (fun h => h)
            have s2 := cell_fr' hF c2 (fun h => h)
            have t0 := cell_fr' hF p0 (fun h => h)
            have t1 := cell_fr' hF p1 (fun h => h)
            have HF3 := Lib.hid (HF.out.trans hF)
            have HO3 := Lib.hid (own_keep HO.out hF (fun _ _ h => h))
            clear hw3 hF c0 c1 c2 p0 p1
            go_wp2_with (at_builtin; refine app_own rfl _ _ 29 87 3 24 _ rfl Tryz.underlying29 Tryz.info87 rfl (by omega) (w.heap.size + 1) _ _ _ rfl (World.ownsRow.alloc HO3.out _) ⟨w3.heap.size, 0, none⟩ 1 1 (rt3 ⟨⟨x, y⟩, z⟩) rfl rfl (news3 w3 ⟨⟨x, y⟩, z⟩) (rt3_one _) (by have := HSL.out; omega) (by omega) (base_alloc HF3.out.size _) ?_; intro v' w5 hv hf)
            have hv2 : SlR w5 (w.heap.size + 1) v' (T ++ [⟨⟨x, y⟩, z⟩]) := SlR.app (r := ⟨⟨x, y⟩, z⟩) hv
            have hf2 := (HF3.out.alloc _).ownB (World.ownsRow.alloc HO3.out _) (by omega) hf
            have hnb : ∀ g, _ → g ≠ w.heap.size := fun g (h : _ = some g) => by have := (World.ownsRow.lt HO3.out g h).1; omega
            have t0 := cell_fr' hf (cell_alloc t0 _) (fun h => hnb _ h rfl)
            have t1 := cell_fr' hf (cell_alloc t1 _) (fun h => hnb _ h rfl)
            have HV2 := Lib.hid hv2; clear hv2; have HF2 := Lib.hid hf2; clear hf2
            clear hv hf hnb
            go_wp2
            go_roundw
            case rel => exact ⟨k + 1, by omega, by go_num, by rw [HST.out]; exact HV2.out, by rw [HST.out], t0, t1, HF2.out⟩
            case measure => simp [intOf]; omega
          | false =>
            generalize hls : decide (Tb.less ⟨l, b⟩ ⟨x, y⟩) = ls at *
            have HLS := Lib.hid hls
            clear hls
            cases ls with
            | true =>
              rw [if_pos ⟨rfl, of_decide_eq_true HLS.out⟩] at hst
              have HST := Lib.hid hst; clear hst
              go_wp2
              go_quiet (fail)
              go_wp2
              go_region_held3 (fun W => W.cell? ⟨b0, o0 + k * 3, none⟩ = some (.int .i64 x) ∧ W.cell? ⟨b0, o0 + k * 3 + 1, none⟩ = some (.int .i64 y) ∧ W.cell? ⟨w.heap.size, 0, none⟩ = some (.int .i64 l) ∧ W.cell? ⟨w.heap.size, 1, none⟩ = some (.int .i64 b))
                (first | exact ⟨s0, s1, t0, t1⟩ | exact ⟨c0, c1, p0, p1⟩)
                (first | (go_at_call 100; have hh := HF.out; clear hh; go_must (refine (RLess_any _ _ _ _ _).mono ?_); go_must (rw [HLS.out]); go_must (rintro e w3 ⟨rfl, hf⟩); go_must (have s0 := cell_fr' hf c0 (fun h => h)); go_must (have s1 := cell_fr' hf c1 (fun h => h)); go_must (have s2 := cell_fr' hf c2 (fun h => h)); go_must (have t0 := cell_fr' hf p0 (fun h => h)); go_must (have t1 := cell_fr' hf p1 (fun h => h)); go_must (have HF3 := Lib.hid ((HF.out.drewN _).drew.trans hf)); go_must (have HO3 := Lib.hid (own_keep HO.out (((Fr.refl NoB wr).drewN _).drew.trans hf) (fun _ _ h => h))); go_must (clear hf)))
              go_upto_region 15 with fail
              go_upto_region 17 with (at_builtin; refine app_own rfl _ _ 29 87 3 24 _ rfl Tryz.underlying29 Tryz.info87 rfl (by omega) (w.heap.size + 1) _ _ _ rfl (World.ownsRow.alloc HO3.out _) ⟨w3.heap.size, 0, none⟩ 1 1 (rt3 ⟨⟨l, b⟩, hop⟩) rfl rfl (news3 w3 ⟨⟨l, b⟩, hop⟩) (rt3_one _) (by have := HSL.out; omega) (by omega) (base_alloc HF3.out.size _) ?_; intro v' w4 hv hf)
              have hv2 : SlR w4 (w.heap.size + 1) v' (T ++ [⟨⟨l, b⟩, hop⟩]) := SlR.app (r := ⟨⟨l, b⟩, hop⟩) hv
              have hf2 := (HF3.out.alloc _).ownB (World.ownsRow.alloc HO3.out _) (by omega) hf
              have hnb : ∀ g, _ → g ≠ w.heap.size ∧ g ≠ b0 := fun g (h : _ = some g) => by have h1 := (World.ownsRow.lt HO3.out g h).1; have h2 := HB0.out; omega
              have r0 := cell_fr' hf (cell_alloc t0 _) (fun h => (hnb _ h).1 rfl)
              have r1 := cell_fr' hf (cell_alloc t1 _) (fun h => (hnb _ h).1 rfl)
              have q0 := cell_fr' hf (cell_alloc s0 _) (fun h => (hnb _ h).2 rfl)
              have q1 := cell_fr' hf (cell_alloc s1 _) (fun h => (hnb _ h).2 rfl)
              have q2 := cell_fr' hf (cell_alloc s2 _) (fun h => (hnb _ h).2 rfl)
              have HO4 := Lib.hid hv2
              have HF4 := Lib.hid hf2
              clear hv hf hnb hv2 hf2 s0 s1 s2 t0 t1
              have HSL : Hid ((T ++ [(⟨⟨l, b⟩, hop⟩ : Tb.Rt)]).length ≤ 2001) := by have := HSL.out; show (T ++ [_]).length ≤ 2001; rw [List.length_append, List.length_singleton]; omega
              go_wp2_with (at_builtin; refine app_own rfl _ _ 29 87 3 24 _ rfl Tryz.underlying29 Tryz.info87 rfl (by omega) (w.heap.size + 1) _ _ _ rfl (World.ownsRow.alloc HO4.out _) ⟨w4.heap.size, 0, none⟩ 1 1 (rt3 ⟨⟨x, y⟩, z⟩) rfl rfl (news3 w4 ⟨⟨x, y⟩, z⟩) (rt3_one _) (by have := HSL.out; omega) (by omega) (base_alloc HF4.out.size _) ?_; intro v' w5 hv hf)
              have hv2 : SlR w5 (w.heap.size + 1) v' ((T ++ [⟨⟨l, b⟩, hop⟩]) ++ [⟨⟨x, y⟩, z⟩]) := SlR.app (r := ⟨⟨x, y⟩, z⟩) hv
              have hf2 := (HF4.out.alloc _).ownB (World.ownsRow.alloc HO4.out _) (by omega) hf
              have hnb : ∀ g, _ → g ≠ w.heap.size := fun g (h : _ = some g) => by have := (World.ownsRow.lt HO4.out g h).1; omega
              have t0 := cell_fr' hf (cell_alloc r0 _) (fun h => hnb _ h rfl)
              have t1 := cell_fr' hf (cell_alloc r1 _) (fun h => hnb _ h rfl)
              have HV2 := Lib.hid hv2; clear hv2; have HF2 := Lib.hid hf2; clear hf2
              clear hv hf hnb
              go_wp2
              go_roundw
              case rel => exact ⟨k + 1, by omega, by go_num, by rw [HST.out]; exact HV2.out, by rw [HST.out], t0, t1, HF2.out⟩
              case measure => simp [intOf]; omega
            | false =>
              rw [if_neg (fun h => by have := of_decide_eq_false HLS.out; exact this h.2)] at hst
              have HST := Lib.hid hst; clear hst
              go_wp2
              go_quiet (fail)
              go_wp2
              go_region_held3 (fun W => W.cell? ⟨b0, o0 + k * 3, none⟩ = some (.int .i64 x) ∧ W.cell? ⟨b0, o0 + k * 3 + 1, none⟩ = some (.int .i64 y) ∧ W.cell? ⟨w.heap.size, 0, none⟩ = some (.int .i64 l) ∧ W.cell? ⟨w.heap.size, 1, none⟩ = some (.int .i64 b))
                (first | exact ⟨s0, s1, t0, t1⟩ | exact ⟨c0, c1, p0, p1⟩)
                (first | (go_at_call 100; have hh := HF.out; clear hh; go_must (refine (RLess_any _ _ _ _ _).mono ?_); go_must (rw [HLS.out]); go_must (rintro e w3 ⟨rfl, hf⟩); go_must (have s0 := cell_fr' hf c0 (fun h => h)); go_must (have s1 := cell_fr' hf c1 (fun h => h)); go_must (have s2 := cell_fr' hf c2 (fun h => h)); go_must (have t0 := cell_fr' hf p0 (fun h => h)); go_must (have t1 := cell_fr' hf p1 (fun h => h)); go_must (have HF3 := Lib.hid ((HF.out.drewN _).drew.trans hf)); go_must (have HO3 := Lib.hid (own_keep HO.out (((Fr.refl NoB wr).drewN _).drew.trans hf) (fun _ _ h => h))); go_must (clear hf)))
              go_upto_region 17 with fail
              clear c0 c1 c2 p0 p1
              go_wp2_with (at_builtin; refine app_own rfl _ _ 29 87 3 24 _ rfl Tryz.underlying29 Tryz.info87 rfl (by omega) (w.heap.size + 1) _ _ _ rfl (World.ownsRow.alloc HO3.out _) ⟨w3.heap.size, 0, none⟩ 1 1 (rt3 ⟨⟨x, y⟩, z⟩) rfl rfl (news3 w3 ⟨⟨x, y⟩, z⟩) (rt3_one _) (by have := HSL.out; omega) (by omega) (base_alloc HF3.out.size _) ?_; intro v' w5 hv hf)
              have hv2 : SlR w5 (w.heap.size + 1) v' (T ++ [⟨⟨x, y⟩, z⟩]) := SlR.app (r := ⟨⟨x, y⟩, z⟩) hv
              have hf2 := (HF3.out.alloc _).ownB (World.ownsRow.alloc HO3.out _) (by omega) hf
              have hnb : ∀ g, _ → g ≠ w.heap.size := fun g (h : _ = some g) => by have := (World.ownsRow.lt HO3.out g h).1; omega
              have t0 := cell_fr' hf (cell_alloc t0 _) (fun h => hnb _ h rfl)
              have t1 := cell_fr' hf (cell_alloc t1 _) (fun h => hnb _ h rfl)
              have HV2 := Lib.hid hv2; clear hv2; have HF2 := Lib.hid hf2; clear hf2
              clear hv hf hnb
              go_wp2
              go_roundw
              case rel => exact ⟨k + 1, by omega, by go_num, by rw [HST.out]; exact HV2.out, by rw [HST.out], t0, t1, HF2.out⟩
              case measure => simp [intOf]; omega
        · cases pb with
          | true =>
            rw [if_neg (by simp)] at hst
            have HST := Lib.hid hst; clear hst
            go_wp2
            go_quiet (fail)
            go_wp2
            go_quiet (fail)
            go_upto_region 17 with fail
            refine wp_name fun w3 hw3 => ?_
            have hF : Fr NoB wr w3 := by rw [hw3]; (repeat (first | exact Fr.refl _ _ | refine Fr.alloc ?_ _ | refine Fr.setNew ?_ (by omega) _ _ | refine Fr.drewN ?_ _ | refine Fr.drew ?_))
            have s0 := cell_fr' hF c0 (fun h => h)
            have s1 := cell_fr' hF c1 (fun h => h)
            have s2 := cell_fr' hF c2 (fun h => h)
            have t0 := cell_fr' hF p0 (fun h => h)
            have t1 := cell_fr' hF p1 (fun h => h)
            have HF3 := Lib.hid (HF.out.trans hF)
            have HO3 := Lib.hid (own_keep HO.out hF (fun _ _ h => h))
            clear hw3 hF c0 c1 c2 p0 p1
            go_wp2_with (at_builtin; refine app_own rfl _ _ 29 87 3 24 _ rfl Tryz.underlying29 Tryz.info87 rfl (by omega) (w.heap.size + 1) _ _ _ rfl (World.ownsRow.alloc HO3.out _) ⟨w3.heap.size, 0, none⟩ 1 1 (rt3 ⟨⟨x, y⟩, z⟩) rfl rfl (news3 w3 ⟨⟨x, y⟩, z⟩) (rt3_one _) (by have := HSL.out; omega) (by omega) (base_alloc HF3.out.size _) ?_; intro v' w5 hv hf)
            have hv2 : SlR w5 (w.heap.size + 1) v' (T ++ [⟨⟨x, y⟩, z⟩]) := SlR.app (r := ⟨⟨x, y⟩, z⟩) hv
            have hf2 := (HF3.out.alloc _).ownB (World.ownsRow.alloc HO3.out _) (by omega) hf
            have hnb : ∀ g, _ → g ≠ w.heap.size := fun g (h : _ = some g) => by have := (World.ownsRow.lt HO3.out g h).1; omega
            have t0 := cell_fr' hf (cell_alloc t0 _) (fun h => hnb _ h rfl)
            have t1 := cell_fr' hf (cell_alloc t1 _) (fun h => hnb _ h rfl)
            have HV2 := Lib.hid hv2; clear hv2; have HF2 := Lib.hid hf2; clear hf2
            clear hv hf hnb
            go_wp2
            go_roundw
            case rel => exact ⟨k + 1, by omega, by go_num, by rw [HST.out]; exact HV2.out, by rw [HST.out], t0, t1, HF2.out⟩
            case measure => simp [intOf]; omega
          | false =>
            generalize hls : decide (Tb.less ⟨l, b⟩ ⟨x, y⟩) = ls at *
            have HLS := Lib.hid hls
            clear hls
            cases ls with
            | true =>
              rw [if_pos ⟨rfl, of_decide_eq_true HLS.out⟩] at hst
              have HST := Lib.hid hst; clear hst
              go_wp2
              go_quiet (fail)
              go_wp2
              go_region_held3 (fun W => W.cell? ⟨b0, o0 + k * 3, none⟩ = some (.int .i64 x) ∧ W.cell? ⟨b0, o0 + k * 3 + 1, none⟩ = some (.int .i64 y) ∧ W.cell? ⟨w.heap.size, 0, none⟩ = some (.int .i64 l) ∧ W.cell? ⟨w.heap.size, 1, none⟩ = some (.int .i64 b))
                (first | exact ⟨s0, s1, t0, t1⟩ | exact ⟨c0, c1, p0, p1⟩)
                (first | (go_at_call 100; have hh := HF.out; clear hh; go_must (refine (RLess_any _ _ _ _ _).mono ?_); go_must (rw [HLS.out]); go_must (rintro e w3 ⟨rfl, hf⟩); go_must (have s0 := cell_fr' hf c0 (fun h => h)); go_must (have s1 := cell_fr' hf c1 (fun h => h)); go_must (have s2 := cell_fr' hf c2 (fun h => h)); go_must (have t0 := cell_fr' hf p0 (fun h => h)); go_must (have t1 := cell_fr' hf p1 (fun h => h)); go_must (have HF3 := Lib.hid ((HF.out.drewN _).drew.trans hf)); go_must (have HO3 := Lib.hid (own_keep HO.out (((Fr.refl NoB wr).drewN _).drew.trans hf) (fun _ _ h => h))); go_must (clear hf)))
              go_upto_region 15 with fail
              go_upto_region 17 with (at_builtin; refine app_own rfl _ _ 29 87 3 24 _ rfl Tryz.underlying29 Tryz.info87 rfl (by omega) (w.heap.size + 1) _ _ _ rfl (World.ownsRow.alloc HO3.out _) ⟨w3.heap.size, 0, none⟩ 1 1 (rt3 ⟨⟨l, b⟩, hop⟩) rfl rfl (news3 w3 ⟨⟨l, b⟩, hop⟩) (rt3_one _) (by have := HSL.out; omega) (by omega) (base_alloc HF3.out.size _) ?_; intro v' w4 hv hf)
              have hv2 : SlR w4 (w.heap.size + 1) v' (T ++ [⟨⟨l, b⟩, hop⟩]) := SlR.app (r := ⟨⟨l, b⟩, hop⟩) hv
              have hf2 := (HF3.out.alloc _).ownB (World.ownsRow.alloc HO3.out _) (by omega) hf
              have hnb : ∀ g, _ → g ≠ w.heap.size ∧ g ≠ b0 := fun g (h : _ = some g) => by have h1 := (World.ownsRow.lt HO3.out g h).1; have h2 := HB0.out; omega
              have r0 := cell_fr' hf (cell_alloc t0 _) (fun h => (hnb _ h).1 rfl)
              have r1 := cell_fr' hf (cell_alloc t1 _) (fun h => (hnb _ h).1 rfl)
              have q0 := cell_fr' hf (cell_alloc s0 _) (fun h => (hnb _ h).2 rfl)
              have q1 := cell_fr' hf (cell_alloc s1 _) (fun h => (hnb _ h).2 rfl)
              have q2 := cell_fr' hf (cell_alloc s2 _) (fun h => (hnb _ h).2 rfl)
              have HO4 := Lib.hid hv2
              have HF4 := Lib.hid hf2
              clear hv hf hnb hv2 hf2 s0 s1 s2 t0 t1
              have HSL : Hid ((T ++ [(⟨⟨l, b⟩, hop⟩ : Tb.Rt)]).length ≤ 2001) := by have := HSL.out; show (T ++ [_]).length ≤ 2001; rw [List.length_append, List.length_singleton]; omega
              go_wp2_with (at_builtin; refine app_own rfl _ _ 29 87 3 24 _ rfl Tryz.underlying29 Tryz.info87 rfl (by omega) (w.heap.size + 1) _ _ _ rfl (World.ownsRow.alloc HO4.out _) ⟨w4.heap.size, 0, none⟩ 1 1 (rt3 ⟨⟨x, y⟩, z⟩) rfl rfl (news3 w4 ⟨⟨x, y⟩, z⟩) (rt3_one _) (by have := HSL.out; omega) (by omega) (base_alloc HF4.out.size _) ?_; intro v' w5 hv hf)
              have hv2 : SlR w5 (w.heap.size + 1) v' ((T ++ [⟨⟨l, b⟩, hop⟩]) ++ [⟨⟨x, y⟩, z⟩]) := SlR.app (r := ⟨⟨x, y⟩, z⟩) hv
              have hf2 := (HF4.out.alloc _).ownB (World.ownsRow.alloc HO4.out _) (by omega) hf
              have hnb : ∀ g, _ → g ≠ w.heap.size := fun g (h : _ = some g) => by have := (World.ownsRow.lt HO4.out g h).1; omega
              have t0 := cell_fr' hf (cell_alloc r0 _) (fun h => hnb _ h rfl)
              have t1 := cell_fr' hf (cell_alloc r1 _) (fun h => hnb _ h rfl)
              have HV2 := Lib.hid hv2; clear hv2; have HF2 := Lib.hid hf2; clear hf2
              clear hv hf hnb
              go_wp2
              go_roundw
              case rel => exact ⟨k + 1, by omega, by go_num, by rw [HST.out]; exact HV2.out, by rw [HST.out], t0, t1, HF2.out⟩
              case measure => simp [intOf]; omega
            | false =>
              rw [if_neg (fun h => by have := of_decide_eq_false HLS.out; exact this h.2)] at hst
              have HST := Lib.hid hst; clear hst
              go_wp2
              go_quiet (fail)
              go_wp2
              go_region_held3 (fun W => W.cell? ⟨b0, o0 + k * 3, none⟩ = some (.int .i64 x) ∧ W.cell? ⟨b0, o0 + k * 3 + 1, none⟩ = some (.int .i64 y) ∧ W.cell? ⟨w.heap.size, 0, none⟩ = some (.int .i64 l) ∧ W.cell? ⟨w.heap.size, 1, none⟩ = some (.int .i64 b))
                (first | exact ⟨s0, s1, t0, t1⟩ | exact ⟨c0, c1, p0, p1⟩)
                (first | (go_at_call 100; have hh := HF.out; clear hh; go_must (refine (RLess_any _ _ _ _ _).mono ?_); go_must (rw [HLS.out]); go_must (rintro e w3 ⟨rfl, hf⟩); go_must (have s0 := cell_fr' hf c0 (fun h => h)); go_must (have s1 := cell_fr' hf c1 (fun h => h)); go_must (have s2 := cell_fr' hf c2 (fun h => h)); go_must (have t0 := cell_fr' hf p0 (fun h => h)); go_must (have t1 := cell_fr' hf p1 (fun h => h)); go_must (have HF3 := Lib.hid ((HF.out.drewN _).drew.trans hf)); go_must (have HO3 := Lib.hid (own_keep HO.out (((Fr.refl NoB wr).drewN _).drew.trans hf) (fun _ _ h => h))); go_must (clear hf)))
              go_upto_region 17 with fail
              clear c0 c1 c2 p0 p1
              go_wp2_with (at_builtin; refine app_own rfl _ _ 29 87 3 24 _ rfl Tryz.underlying29 Tryz.info87 rfl (by omega) (w.heap.size + 1) _ _ _ rfl (World.ownsRow.alloc HO3.out _) ⟨w3.heap.size, 0, none⟩ 1 1 (rt3 ⟨⟨x, y⟩, z⟩) rfl rfl (news3 w3 ⟨⟨x, y⟩, z⟩) (rt3_one _) (by have := HSL.out; omega) (by omega) (base_alloc HF3.out.size _) ?_; intro v' w5 hv hf)
              have hv2 : SlR w5 (w.heap.size + 1) v' (T ++ [⟨⟨x, y⟩, z⟩]) := SlR.app (r := ⟨⟨x, y⟩, z⟩) hv
              have hf2 := (HF3.out.alloc _).ownB (World.ownsRow.alloc HO3.out _) (by omega) hf
              have hnb : ∀ g, _ → g ≠ w.heap.size := fun g (h : _ = some g) => by have := (World.ownsRow.lt HO3.out g h).1; omega
              have t0 := cell_fr' hf (cell_alloc t0 _) (fun h => hnb _ h rfl)
              have t1 := cell_fr' hf (cell_alloc t1 _) (fun h => hnb _ h rfl)
              have HV2 := Lib.hid hv2; clear hv2; have HF2 := Lib.hid hf2; clear hf2
              clear hv hf hnb
              go_wp2
              go_roundw
              case rel => exact ⟨k + 1, by omega, by go_num, by rw [HST.out]; exact HV2.out, by rw [HST.out], t0, t1, HF2.out⟩
              case measure => simp [intOf]; omega
    · have e : L.take k = L := List.take_of_length_le (by omega)
      rw [e] at hsl HO ⊢
      clear e
      generalize hss : Tb.soF L ⟨l, b⟩ hop = s at *
      obtain ⟨T, pb⟩ := s
      dsimp only at hsl HO ⊢
      have HSL : Hid (T.length ≤ 2000) := by show T.length ≤ 2000; omega
      have HSS := Lib.hid hss
      clear hss hsl
      cases pb with
      | true =>
        obtain ⟨oa, oc, rfl, _⟩ := HO.out.shape
        go_wp2
        refine bodyPost_ret (v := .tuple #[.slice oa T.length oc, .int .i64 0]) ?_ rfl (show SoOk L ⟨l, b⟩ hop w (.returned (.tuple #[.slice oa T.length oc, .int .i64 0])) wr from ⟨_, rfl, by rw [HSS.out]; exact HO.out.base (by omega), HF.out⟩)
        simp [results, Tryz.results73, go_sem]
      | false =>
        go_upto_region 19 with fail
        go_wp2_with (at_builtin; refine app_own rfl _ _ 29 87 3 24 _ rfl Tryz.underlying29 Tryz.info87 rfl (by omega) (w.heap.size + 1) _ _ _ rfl (World.ownsRow.alloc HO.out _) ⟨wr.heap.size, 0, none⟩ 1 1 (rt3 ⟨⟨l, b⟩, hop⟩) rfl rfl (news3 wr ⟨⟨l, b⟩, hop⟩) (rt3_one _) (by have := HSL.out; omega) (by omega) (base_alloc HF.out.size _) ?_; intro v' w4 hv hf)
        have hv2 : SlR w4 (w.heap.size + 1) v' (T ++ [⟨⟨l, b⟩, hop⟩]) := SlR.app (r := ⟨⟨l, b⟩, hop⟩) hv
        have hf2 := (HF.out.alloc _).ownB (World.ownsRow.alloc HO.out _) (by omega) hf
        have HV2 := Lib.hid hv2; clear hv2; have HF2 := Lib.hid hf2; clear hf2
        clear hv hf
        refine bodyPost_ret (v := .tuple #[v', .int .i64 0]) ?_ rfl (show SoOk L ⟨l, b⟩ hop w (.returned (.tuple #[v', .int .i64 0])) w4 from ⟨_, rfl, by rw [HSS.out]; exact HV2.out.base (by omega), HF2.out⟩)
        simp [results, Tryz.results73, go_sem]
end Go.Proofs.YteedndapbfihaaaGreat
