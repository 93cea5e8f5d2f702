/- Walks: (*Links).List and slices.Clip. -/
import Derived.Test.YtdpgbgapelgomaaLk6
namespace Go.Proofs.Ytdpgbgapelgomaa
open Go.RowKit Go.Deep

def flatC (C : Nat → Nat → Int) (P : List (Nat × Nat)) : List Int := P.flatMap fun p => [(p.1 : Int), (p.2 : Int), C p.1 p.2]
theorem flatC_len (C : Nat → Nat → Int) : ∀ P, (flatC C P).length = P.length * 3
  | [] => rfl
  | p :: P => by
    have := flatC_len C P
    simp only [flatC, List.flatMap_cons, List.length_append, List.length_cons, List.length_nil] at this ⊢
    omega
theorem flatC_snoc (C : Nat → Nat → Int) (P : List (Nat × Nat)) (a b : Nat) : flatC C (P ++ [(a, b)]) = flatC C P ++ [(a : Int), (b : Int), C a b] := by simp [flatC]
def rowP (C : Nat → Nat → Int) (k i : Nat) : List (Nat × Nat) := ((List.range i).filter (fun j => decide (0 < C k j) && decide (k < j))).map (fun j => (k, j))
def allP (C : Nat → Nat → Int) : Nat → List (Nat × Nat)
  | 0 => []
  | k + 1 => allP C k ++ rowP C k 6
theorem rowP_le (C : Nat → Nat → Int) (k i : Nat) : (rowP C k i).length ≤ i := by
  have := List.length_filter_le (fun j => decide (0 < C k j) && decide (k < j)) (List.range i)
  simpa [rowP] using this
theorem allP_le (C : Nat → Nat → Int) : ∀ k, (allP C k).length ≤ 6 * k
  | 0 => by simp [allP]
  | k + 1 => by
    have := allP_le C k
    have := rowP_le C k 6
    simp only [allP, List.length_append]
    omega
theorem rowP_hit (C : Nat → Nat → Int) (k i : Nat) (h : 0 < C k i) (h2 : k < i) : rowP C k (i + 1) = rowP C k i ++ [(k, i)] := by simp [rowP, List.range_succ, h, h2]
theorem rowP_miss (C : Nat → Nat → Int) (k i : Nat) (h : ¬ (0 < C k i ∧ k < i)) : rowP C k (i + 1) = rowP C k i := by
  have : (decide (0 < C k i) && decide (k < i)) = false := by simpa using h
  simp [rowP, List.range_succ, this]
theorem rowP_low (C : Nat → Nat → Int) (k : Nat) : rowP C k (k + 1) = [] := by
  simp only [rowP, List.map_eq_nil_iff, List.filter_eq_nil_iff, List.mem_range, Bool.and_eq_true, decide_eq_true_eq, not_and]
  omega
/-- As the neighbours give it. -/
def nbP (C : Nat → Nat → Int) (k j : Nat) : List (Nat × Nat) := (((ofL C k 6).take j).filter (fun i => decide (k < i))).map (fun i => (k, i))
theorem nbP_end (C : Nat → Nat → Int) (k : Nat) : nbP C k (ofL C k 6).length = rowP C k 6 := by
  simp only [nbP, rowP, List.take_length, ofL, List.filter_filter]
  congr 2
  funext j
  exact Bool.and_comm _ _
theorem nbP_hit (C : Nat → Nat → Int) (k j : Nat) (hj : j < (ofL C k 6).length) (h : k < (ofL C k 6)[j]) : nbP C k (j + 1) = nbP C k j ++ [(k, (ofL C k 6)[j])] := by
  simp only [nbP, List.take_succ_eq_append_getElem hj, List.filter_append, List.map_append]
  simp [h]
theorem nbP_miss (C : Nat → Nat → Int) (k j : Nat) (hj : j < (ofL C k 6).length) (h : ¬ k < (ofL C k 6)[j]) : nbP C k (j + 1) = nbP C k j := by
  simp only [nbP, List.take_succ_eq_append_getElem hj, List.filter_append, List.map_append]
  simp [h]
theorem nbP_le (C : Nat → Nat → Int) (k j : Nat) : (nbP C k j).length ≤ 6 := by
  have h1 := List.length_filter_le (fun i => decide (k < i)) ((ofL C k 6).take j)
  have h2 := List.length_take_le' j (ofL C k 6)
  have h3 := ofL_le C k 6
  simp only [nbP, List.length_map]
  omega

theorem Try.info34 : (Try.prog.info? 34).map (fun i => (i.zero, i.size, i.bytes)) = some (some (.agg #[.int .i64 0, .int .i64 0, .int .i64 0]), 3, 24) := by kernel_rfl
/-- A slice of links of the call's own. -/
def SlL (w : World) (base : Nat) (v : Value) (C : Nat → Nat → Int) (P : List (Nat × Nat)) : Prop := w.ownsRow base 34 3 v P.length ((flatC C P).map (Value.int .i64))
def ListPost (C : Nat → Nat → Int) (w : World) (e : Ending) (w' : World) : Prop :=
  ∃ a, e = .returned (.slice a (allP C 6).length (allP C 6).length) ∧ Rd w' a ((allP C 6).length * 3) (fun i => (flatC C (allP C 6)).getD i 0) ∧ (∀ p, a = some p → w.heap.size ≤ p.block) ∧ Fr NoB w w'

theorem ownsRow_rd {w : World} {base : Nat} {e : TypeId} {size : Nat} {v : Value} {n : Nat} {xs : List Int} (h : w.ownsRow base e size v n (xs.map (Value.int .i64))) :
    ∃ a cap, v = .slice a n cap ∧ Rd w a (n * size) (fun i => xs.getD i 0) ∧ (∀ p, a = some p → base ≤ p.block) ∧ (a = none → cap = 0) ∧ n ≤ cap ∧ cap ≤ maxLen ∧ ∀ p, a = some p → p = ⟨p.block, 0, none⟩ := by
  have hlen := h.1
  have hc := fun g => World.ownsRow.cells (g := g) h
  rcases h.2 with ⟨rfl, rfl⟩ | ⟨g, cap, cur, rfl, h2, h3, h4, h5, _⟩
  · exact ⟨none, 0, rfl, fun k hk => absurd hk (by omega), fun p hp => by (cases hp), fun _ => rfl, Nat.le_refl _, by unfold maxLen; omega, fun p hp => by (cases hp)⟩
  · refine ⟨some ⟨g, 0, none⟩, cap, rfl, fun i hi => ⟨g, 0, rfl, ?_⟩, fun p hp => by (cases hp; exact h2), fun h => by (cases h), h4, h5, fun p hp => by (cases hp; rfl)⟩
    have hi' : i < xs.length := by simp only [List.length_map] at hlen; omega
    have := hc g rfl i (.int .i64 (xs.getD i 0)) (by simp [hi'])
    rw [add_base] at this
    rw [Nat.zero_add]
    exact this

set_option maxHeartbeats 400000 in
theorem Clip_nil (w : World) : Calls Try.prog 60 #[.slice none 0 0] w fun e w' => e = .returned (.slice none 0 0) ∧ w = w' := by
  go_enter Try.func60, Try.ntmps60
  go_wp2
  go_ret
  exact ⟨rfl, rfl⟩
set_option maxHeartbeats 400000 in
theorem Clip_some (w : World) (g n cap : Nat) (h : n ≤ cap) : Calls Try.prog 60 #[.slice (some ⟨g, 0, none⟩) n cap] w fun e w' => e = .returned (.slice (some ⟨g, 0, none⟩) n n) ∧ w = w' := by
  go_enter Try.func60, Try.ntmps60
  go_wp2
  go_ret
  exact ⟨rfl, rfl⟩

def LiRel (C : Nat → Nat → Int) (w : World) (v i : Value) (wr : World) : Prop := ∃ k : Nat, k ≤ 6 ∧ i = .int .i64 k ∧ SlL wr w.heap.size v C (allP C k) ∧ Fr NoB w wr
def LjRel (C : Nat → Nat → Int) (k : Nat) (w : World) (base : Nat) (u : Value) (v i : Value) (wr : World) : Prop := ∃ j : Nat, j ≤ (ofL C k 6).length ∧ i = .int .i64 j ∧ SlL wr w.heap.size v C (allP C k ++ nbP C k j) ∧ Sl wr base u (ints (ofL C k 6)) ∧ Fr NoB w wr

set_option maxHeartbeats 4000000 in
theorem List_any (b : Nat) (C : Nat → Nat → Int) (w : World) (hC : CAt w b 103 C) :
    Calls Try.prog 23 #[.pointer (some ⟨b, 0, none⟩)] w (ListPost C w) := by
  have HC := Lib.hid hC; clear hC
  go_enter Try.func23, Try.ntmps23
  go_wp2
  go_loopw [3, 7] (fun v i wr => LiRel C w v i wr) (fun _ i _ => 6 - (intOf i).toNat)
  case atStart => exact ⟨0, by omega, rfl, World.ownsRow_nil _ _ _ _, Fr.refl _ _⟩
  case round =>
    obtain ⟨k, hk, rfl, hown, hfr⟩ := hrel
    obtain ⟨w2, rfl⟩ : ∃ w2 : World, w2 = wr := ⟨_, rfl⟩
    have HO := Lib.hid hown; clear hown
    have HF := Lib.hid hfr; clear hfr
    by_cases hk6 : k < 6
    · have hkb : decide ((k : Int) < 6) = true := by simp; omega
      go_wp2_with fail
      refine (Of_yes b k C _ hk6 (HF.out.row HC.out (fun h => h))).mono ?_
      rintro e w3 ⟨u, rfl, hv, hf⟩
      have HV := Lib.hid hv; clear hv
      have o3 : SlL w3 w.heap.size u3 C (allP C k) := own_keep HO.out hf (fun _ _ h => h)
      have f3 := HF.out.trans hf
      have O3 := Lib.hid o3; clear o3
      have F3 := Lib.hid f3; clear f3 hf
      rcases HV.out.shape with ⟨rfl, hx⟩ | ⟨g, cap, rfl, hg, hg2, _⟩
      · have HL0 : (ofL C k 6).length = 0 := by simpa [ints] using congrArg List.length hx
        have hend : allP C (k + 1) = allP C k := by rw [allP, ← nbP_end, HL0]; simp [nbP]
        have HE := Lib.hid hend; clear hend hx HL0
        go_wp2
        refine wp_loop_rounds 1 ?_
        rw [rounds_succ]
        go_wp2
        go_roundw
        case rel => exact ⟨k + 1, by omega, by go_num, by rw [HE.out]; exact O3.out, F3.out⟩
        case measure => simp [intOf]; omega
      · have hlen : (ints (ofL C k 6)).length = (ofL C k 6).length := by simp [ints]
        have hv2 : Sl w3 w2.heap.size (.slice (some ⟨g, 0, none⟩) (ofL C k 6).length cap) (ints (ofL C k 6)) := by rw [← hlen]; exact HV.out
        have HV := Lib.hid hv2; clear hv2
        rw [hlen]
        clear hlen
        go_wp2
        go_loopw [3, 14] (fun v i wr => LjRel C k w w2.heap.size (.slice (some ⟨g, 0, none⟩) (ofL C k 6).length cap) v i wr) (fun _ i _ => (ofL C k 6).length - (intOf i).toNat)
        case atStart => exact ⟨0, by omega, rfl, by simpa [nbP] using O3.out, HV.out, F3.out⟩
        case round =>
          clear O3 F3
          obtain ⟨j, hj, rfl, hown, hsl, hfr⟩ := hrel
          have HO := Lib.hid hown; clear hown
          have HS := Lib.hid hsl; clear hsl
          have HF := Lib.hid hfr; clear hfr
          have hLe := ofL_le C k 6
          by_cases hjl : j < (ofL C k 6).length
          · have hmem := (mem_ofL C k (ofL C k 6)[j]).1 (List.getElem_mem hjl)
            have hhit := nbP_hit C k j hjl
            have hmiss := nbP_miss C k j hjl
            have cV : wr.cell? ⟨g, j, none⟩ = some (.int .i64 ((ofL C k 6)[j] : Nat)) := by
              rcases HS.out.shape with ⟨h, _⟩ | ⟨g', cap', h, _, _, hc⟩
              · cases h
              · have eg : g' = g := by injection h with e1 e2 e3; injection e1 with e1; injection e1 with e1; exact e1.symm
                rw [← eg, hc j (by simpa [ints] using hjl)]
                simp [ints, hjl]
            generalize (ofL C k 6)[j] = c at *
            obtain ⟨hc6, hcpos⟩ := hmem
            have c1 := CAt.cell (HF.out.row HC.out (fun h => h)) hk6 hc6
            by_cases hkc : k < c
            · have hP := hhit hkc
              have HP := Lib.hid hP; clear hP hhit hmiss
              go_wp2_with (at_builtin; refine app_own rfl (.tmp 21) (.tmp 33) 22 34 3 24 (.agg #[.int .i64 0, .int .i64 0, .int .i64 0]) rfl Try.underlying22 Try.info34 rfl (by omega) w.heap.size u3 (allP C k ++ nbP C k j).length _ rfl (World.ownsRow.alloc HO.out _) ⟨wr.heap.size, 0, none⟩ 1 1 [.int .i64 k, .int .i64 c, .int .i64 (C k c)] rfl rfl ?h1 ?h2 ?h3 (by omega) ?h4 ?_)
              case h1 =>
                intro i u hi
                match i, hi with
                | 0, hi => simp at hi; subst hi; simp [Addr.add]
                | 1, hi => simp at hi; subst hi; simp [Addr.add]
                | 2, hi => simp at hi; subst hi; simp [Addr.add]
              case h2 => intro u hu; simp at hu; rcases hu with rfl | rfl | rfl <;> rfl
              case h3 => have := allP_le C k; have := nbP_le C k j; simp only [List.length_append]; omega
              case h4 => have := HF.out.size; simp; omega
              · intro v' w4 h1 h2
                have H1 := Lib.hid h1; clear h1
                have r1 : Sl w4 w2.heap.size (.slice (some ⟨g, 0, none⟩) (ofL C k 6).length cap) (ints (ofL C k 6)) := own_keep (HS.out.alloc _) h2 (own_apart HS.out HO.out (by decide))
                have r2 : Fr NoB w w4 := (HF.out.alloc _).ownB (World.ownsRow.alloc HO.out _) (Nat.le_refl _) h2
                have R1 := Lib.hid r1; clear r1
                have R2 := Lib.hid r2; clear r2 h2
                go_wp2
                go_roundw
                case rel => exact ⟨j + 1, by omega, by go_num, by
                  rw [HP.out, ← List.append_assoc]
                  unfold SlL
                  rw [flatC_snoc, List.length_append, List.length_append, List.map_append]
                  exact H1.out, R1.out, R2.out⟩
                case measure => simp [intOf]; omega
            · have hP := hmiss hkc
              have HP := Lib.hid hP; clear hP hhit hmiss
              go_wp2
              go_roundw
              case rel => exact ⟨j + 1, by omega, by go_num, by rw [HP.out]; exact HO.out, HS.out, HF.out⟩
              case measure => simp [intOf]; omega
          · have e6 : j = (ofL C k 6).length := by omega
            have hend : allP C k ++ nbP C k j = allP C (k + 1) := by rw [e6, nbP_end, allP]
            have HE := Lib.hid hend; clear hend e6
            go_wp2
            go_roundw
            case rel => exact ⟨k + 1, by omega, by go_num, by rw [← HE.out]; exact HO.out, HF.out⟩
            case measure => simp [intOf]; omega
    · have e6 : k = 6 := by omega
      subst e6
      rcases HO.out.2 with ⟨rfl, h0⟩ | ⟨g, cap, cur, rfl, h2, h3, h4, h5, _⟩
      · have HZ := Lib.hid h0; clear h0
        go_wp2_with fail
        refine (Clip_nil _).mono ?_
        rintro e w4 ⟨rfl, rfl⟩
        go_wp2
        go_ret
        exact ⟨none, by rw [HZ.out]; rfl, fun i hi => absurd hi (by rw [HZ.out]; omega), fun p hp => by (cases hp), HF.out⟩
      · have H4 := Lib.hid h4; have H5 := Lib.hid h5
        clear h2 h3 h4 h5
        go_wp2_with fail
        refine (Clip_some _ g _ cap H4.out).mono ?_
        rintro e w4 ⟨rfl, rfl⟩
        go_wp2
        go_ret
        obtain ⟨a, cap', he, hr, hb, _⟩ := ownsRow_rd HO.out
        cases he
        exact ⟨_, rfl, hr, hb, HF.out⟩
end Go.Proofs.Ytdpgbgapelgomaa
