/- Walks: internal/strconv.formatBits at base 2, of a number below 256. -/
import Derived.Test.YtglngngcohcmfaaDoorPf7
namespace Go.Proofs.YtglngngcohcmfaaDoor
open Go.RowKit Go.Deep

theorem and1 : ∀ n : Nat, n < 256 → bits BinOp.and IntKind.u64 (n : Int) 1 = ((n % 2 : Nat) : Int) := by decide +kernel
theorem dig_int : ∀ n : Nat, n < 256 → (48 + ((n % 2 : Nat) : Int)) = ((Tb.dg n).toNat : Int) := by decide +kernel
def FbPost (n : Nat) (w : World) (e : Ending) (w' : World) : Prop := e = .returned (.tuple #[.slice none 0 0, .string ⟨(Tb.bd n).toArray⟩]) ∧ Fr NoB w w'
/-- The row of digits: those behind 65 - the list's length are the list. -/
def Row (w : World) (b : Nat) (L : List UInt8) : Prop := ∃ F : Nat → Value, w.rowIs b 75 65 F ∧ ∀ j, j < 65 → F j = .int .u8 (if 65 ≤ j + L.length then ((L.getD (j + L.length - 65) 0).toNat : Int) else 0)
theorem Row.cell {w : World} {b : Nat} {L : List UInt8} (h : Row w b L) {j : Nat} (hj : j < 65) : w.cell? ⟨b, j, none⟩ = some (.int .u8 (if 65 ≤ j + L.length then ((L.getD (j + L.length - 65) 0).toNat : Int) else 0)) := by
  obtain ⟨F, h1, h2⟩ := h
  rw [← h2 j hj]
  exact World.rowIs.cell h1 hj
theorem Row.frozen {w : World} {b : Nat} {L : List UInt8} (h : Row w b L) (j : Nat) : w.frozen? ⟨b, j, none⟩ = false := by
  obtain ⟨F, h1, _⟩ := h
  exact World.rowIs.frozen h1 j
theorem Row.push {w : World} {b : Nat} {L : List UInt8} (h : Row w b L) (hl : L.length < 65) (c : UInt8) : Row (w.setCell ⟨b, 64 - L.length, none⟩ (.int .u8 (c.toNat : Int))) b (c :: L) := by
  obtain ⟨F, h1, h2⟩ := h
  refine ⟨_, World.rowIs.set h1 (64 - L.length) _, fun j hj => ?_⟩
  simp only [List.length_cons]
  by_cases e : j = 64 - L.length
  · subst e
    rw [if_pos rfl, if_pos (by omega), show 64 - L.length + (L.length + 1) - 65 = 0 from by omega]
    rfl
  · rw [if_neg e, h2 j hj]
    by_cases k : 65 ≤ j + L.length
    · rw [if_pos k, if_pos (by omega), show j + (L.length + 1) - 65 = (j + L.length - 65) + 1 from by omega]
      rfl
    · rw [if_neg k, if_neg (by omega)]
def FbRel (n b : Nat) (w : World) (u i : Value) (wr : World) : Prop :=
  ∃ (v f : Nat) (L : List UInt8), u = .int .u64 v ∧ i = .int .i64 (65 - (L.length : Int)) ∧ f + L.length = 8 ∧ v < 2 ^ f ∧ Tb.bdF f v ++ L = Tb.bd n ∧ Row wr b L ∧ Fr NoB w wr
set_option maxRecDepth 100000 in
set_option maxHeartbeats 4000000 in
theorem formatBits_any (n : Nat) (w : World) (hn : n < 256) (h : Tab w) :
    Calls Tryd.prog 43 #[.slice none 0 0, .int .u64 n, .int .i64 2, .bool false, .bool false] w (FbPost n w) := by
  have HT := Lib.hid h
  clear h
  go_enter Tryd.func43, Tryd.ntmps43
  go_upto_region 4 with fail
  refine wp_name fun w1 hw1 => ?_
  have hrow : Row w1 w.heap.size [] := by
    rw [hw1]
    refine ⟨_, rowIs_new w 65 (.int .u8 0) 75, fun j hj => ?_⟩
    rw [if_neg (by simp; omega)]
  have hF : Fr NoB w w1 := by rw [hw1]; exact (Fr.refl _ _).alloc _
  have hT : Tab w1 := HT.out.keep hF
  have hsz : w.heap.size < w1.heap.size := by rw [hw1]; simp
  clear hw1
  have HF := Lib.hid hF; clear hF; have HT1 := Lib.hid hT; clear hT; have HR := Lib.hid hrow; clear hrow
  go_wp2_with (first | (go_at_call 52; refine (isPow_any _).mono ?_; rintro e w2 ⟨rfl, rfl⟩) | (go_at_call 53; refine (tz_any _ HT1.out).mono ?_; rintro e w2 ⟨rfl, rfl⟩))
  go_loopw [1, 13] (fun u i wr => FbRel n w.heap.size w u i wr) (fun u _ _ => (intOf u).toNat)
  case atStart => exact ⟨n, 8, [], rfl, rfl, rfl, hn, List.append_nil _, HR.out, HF.out⟩
  case round =>
    obtain ⟨v, f, L, rfl, rfl, hf, hv, hd, hr, hfr⟩ := hrel
    have hv256 : v < 256 := Nat.lt_of_lt_of_le hv (Nat.le_trans (Nat.pow_le_pow_right (by decide) (show f ≤ 8 by omega)) (by decide))
    have hand := and1 v hv256
    by_cases h2 : 2 ≤ v
    · have h2b : decide ((2 : Int) ≤ (v : Int)) = true := by simp; omega
      obtain ⟨f', rfl⟩ : ∃ f', f = f' + 1 := by
        cases f with
        | zero => simp at hv; omega
        | succ f => exact ⟨f, rfl⟩
      have hL : (L.length : Int) ≤ 7 := by omega
      have c0 := hr.cell (j := 64 - L.length) (by omega)
      have c1 : ∃ x : Int, wr.cell? ⟨w.heap.size, 64 - L.length, none⟩ = some (.int .u8 x) := ⟨_, c0⟩
      obtain ⟨x, c1⟩ := c1
      have fz := hr.frozen (64 - L.length)
      clear c0
      have e64 : ((65 : Int) - (L.length : Int) - 1).toNat = 64 - L.length := by omega
      have hpush := fun c => hr.push (by omega) c
      have hnext := hd
      rw [Tb.bdF_ge h2, List.append_assoc] at hnext
      have hv2 : v / 2 < 2 ^ f' := by rw [Nat.pow_succ] at hv; omega
      rcases Nat.mod_two_eq_zero_or_one v with hm | hm
      · rw [hm] at hand
        have hg : Tb.dg v = 48 := by unfold Tb.dg; rw [if_neg (by omega)]
        rw [hg] at hnext
        have HF1 := Lib.hid hfr; clear hfr; have HD := Lib.hid hd; clear hd; have HM := Lib.hid hm; clear hm; have HV := Lib.hid hv; clear hv; have HP := Lib.hid hpush; clear hpush; have HX := Lib.hid hnext; clear hnext; have HV2 := Lib.hid hv2; clear hv2
        clear hr hg
        go_wp2
        go_roundw
        case rel => exact ⟨v / 2, f', 48 :: L, rfl, by show Value.int .i64 _ = .int .i64 _; congr 1; simp only [List.length_cons]; omega, by simp only [List.length_cons]; omega, HV2.out, HX.out, HP.out 48, HF1.out.setNew (Nat.le_refl _) _ _⟩
        case measure => simp [intOf]; omega
      · rw [hm] at hand
        have hg : Tb.dg v = 49 := by unfold Tb.dg; rw [if_pos (by omega)]
        rw [hg] at hnext
        have HF1 := Lib.hid hfr; clear hfr; have HD := Lib.hid hd; clear hd; have HM := Lib.hid hm; clear hm; have HV := Lib.hid hv; clear hv; have HP := Lib.hid hpush; clear hpush; have HX := Lib.hid hnext; clear hnext; have HV2 := Lib.hid hv2; clear hv2
        clear hr hg
        go_wp2
        go_roundw
        case rel => exact ⟨v / 2, f', 49 :: L, rfl, by show Value.int .i64 _ = .int .i64 _; congr 1; simp only [List.length_cons]; omega, by simp only [List.length_cons]; omega, HV2.out, HX.out, HP.out 49, HF1.out.setNew (Nat.le_refl _) _ _⟩
        case measure => simp [intOf]; omega
    · have h2b : decide ((2 : Int) ≤ (v : Int)) = false := by simp; omega
      have c0 := hr.cell (j := 64 - L.length) (by omega)
      have c1 : ∃ x : Int, wr.cell? ⟨w.heap.size, 64 - L.length, none⟩ = some (.int .u8 x) := ⟨_, c0⟩
      obtain ⟨x, c1⟩ := c1
      have fz := hr.frozen (64 - L.length)
      clear c0
      have e64 : ((65 : Int) - (L.length : Int) - 1).toNat = 64 - L.length := by omega
      have hpush := fun c => hr.push (by omega) c
      rw [Tb.bdF_lt (by omega)] at hd
      have hL : (L.length : Int) ≤ 8 := by omega
      have hal : Tryd.prog.arrayLen 75 = 65 := by kernel_rfl
      have hsl : ∀ W, (Instr.sliceAt 75 (.pointer (some ⟨w.heap.size, 0, none⟩)) (some (.int .i64 (65 - (L.length : Int) - 1))) none none).run Tryd.prog W = .ok (.slice (some ⟨w.heap.size, 64 - L.length, none⟩) (L.length + 1) (L.length + 1)) W := fun W => by
        rw [run_sliceAt_array_l W 75 ⟨w.heap.size, 0, none⟩ (by simp [Program.arrayLen, Program.elem, Tryd.underlying75]) .i64 _ (by omega) (by rw [hal]; omega)]
        go_simp
        omega
      have hcv : ∀ c : UInt8, (convert 49 9 (.slice (some ⟨w.heap.size, 64 - L.length, none⟩) (L.length + 1) (L.length + 1))).run Tryd.prog (wr.setCell ⟨w.heap.size, 64 - L.length, none⟩ (.int .u8 (c.toNat : Int))) = .ok (.string ⟨(c :: L).toArray⟩) (wr.setCell ⟨w.heap.size, 64 - L.length, none⟩ (.int .u8 (c.toNat : Int))) := fun c => by
        have h := run_convert_bytes_back (P := Tryd.prog) (wr.setCell ⟨w.heap.size, 64 - L.length, none⟩ (.int .u8 (c.toNat : Int))) 49 9 5 ⟨w.heap.size, 64 - L.length, none⟩ (L.length + 1) (c :: L) Tryd.underlying49 Tryd.underlying5 Tryd.underlying9 (fun j hj => by
          have hj' : j < L.length + 1 := hj
          have := (hpush c).cell (j := 64 - L.length + j) (by omega)
          rw [if_pos (by simp only [List.length_cons]; omega)] at this
          simp only [List.length_cons, show 64 - L.length + j + (L.length + 1) - 65 = j from by omega] at this
          rw [List.getD_eq_getElem?_getD, List.getElem?_eq_getElem hj, Option.getD_some] at this
          rw [Lib.add_plain]
          exact this)
        exact h
      have hcase : v = 0 ∨ v = 1 := by omega
      rcases hcase with rfl | rfl
      · have hcv := hcv 48
        have hd : 48 :: L = Tb.bd n := hd
        have hfin : FbPost n w (.returned (.tuple #[.slice none 0 0, .string ⟨(48 :: L).toArray⟩])) (wr.setCell ⟨w.heap.size, 64 - L.length, none⟩ (.int .u8 (((48 : UInt8).toNat : Int)))) := ⟨by rw [hd], hfr.setNew (Nat.le_refl _) _ _⟩
        have HFIN := Lib.hid hfin; clear hfin; have HD := Lib.hid hd; clear hd; have HV := Lib.hid hv; clear hv
        clear hr hpush hal hfr
        go_wp2
        refine bodyPost_ret (v := .tuple #[.slice none 0 0, .string ⟨(48 :: L).toArray⟩]) ?_ rfl HFIN.out
        simp [results, Tryd.results43, go_sem]
        rfl
      · have hcv := hcv 49
        have hd : 49 :: L = Tb.bd n := hd
        have hfin : FbPost n w (.returned (.tuple #[.slice none 0 0, .string ⟨(49 :: L).toArray⟩])) (wr.setCell ⟨w.heap.size, 64 - L.length, none⟩ (.int .u8 (((49 : UInt8).toNat : Int)))) := ⟨by rw [hd], hfr.setNew (Nat.le_refl _) _ _⟩
        have HFIN := Lib.hid hfin; clear hfin; have HD := Lib.hid hd; clear hd; have HV := Lib.hid hv; clear hv
        clear hr hpush hal hfr
        go_wp2
        refine bodyPost_ret (v := .tuple #[.slice none 0 0, .string ⟨(49 :: L).toArray⟩]) ?_ rfl HFIN.out
        simp [results, Tryd.results43, go_sem]
        rfl
end Go.Proofs.YtglngngcohcmfaaDoor
