/- Walks: handpostref Map.Far. -/
import Derived.Test.YtdpgbgapelgomaaLk2
namespace Go.Proofs.Ytdpgbgapelgomaa
open Go.RowKit Go.Deep

theorem mk6 (w : World) : (Instr.makeSlice 30 (.int .i64 6) (.int .i64 6)).run Try.prog w = .ok (.slice (some ⟨w.heap.size, 0, none⟩) 6 6) (w.alloc (.cells (Array.replicate 6 (.int .i64 0)) 3)) := by kernel_rfl

theorem CAt.drewN {w : World} {b : Nat} {t : TypeId} {C : Nat → Nat → Int} (h : CAt w b t C) (n : Nat) : CAt (w.drewN n) b t C := h
theorem rowI_set {w : World} {b : Nat} {t : TypeId} {n : Nat} {f g : Nat → Int} (h : w.rowIs b t n (I f)) (i : Nat) (v : Int) (e : ∀ j, j < n → g j = if j = i then v else f j) : (w.setCell ⟨b, i, none⟩ (.int .i64 v)).rowIs b t n (I g) :=
  (h.set i (.int .i64 v)).congr fun j hj => by
    simp only [I, e j hj]
    split <;> rfl

/-- The first k of where Far begins. -/
def startK (s : Int) (k : Nat) : Nat → Int := fun n => if n < k then Lk.start s n else 0

def FarPost (f : Nat → Int) (w : World) (e : Ending) (w' : World) : Prop := ∃ g, e = .returned (.slice (some ⟨g, 0, none⟩) 6 6) ∧ w.heap.size ≤ g ∧ w'.rowIs g 3 6 (I f) ∧ Fr NoB w w'

set_option maxHeartbeats 4000000 in
theorem MFar (b : Nat) (s : Int) (C : Nat → Nat → Int) (w : World) (hC : CAt w b 100 C) (hc : Lk.CostOK C) :
    Calls Try.prog 22 #[.pointer (some ⟨b, 0, none⟩), .int .i64 s] w (FarPost (Lk.far C s) w) := by
  have HC := Lib.hid hC; clear hC
  have HH := Lib.hid hc; clear hc
  have hmk := mk6
  go_enter Try.func22, Try.ntmps22
  go_wp2
  clear hmk
  go_loopw [6] (fun i wr => ∃ k : Nat, k ≤ 6 ∧ i = .int .i64 k ∧ wr.rowIs w.heap.size 3 6 (I (startK s k)) ∧ Fr NoB w wr) (fun i _ => 6 - (intOf i).toNat)
  case atStart => exact ⟨0, by omega, rfl, (rowIs_new w 6 (.int .i64 0) 3).congr (by intro i _; simp [I, startK]), (Fr.refl _ _).alloc _⟩
  case round =>
    obtain ⟨k, hk, rfl, hrow, hfr⟩ := hrel
    have HR := Lib.hid hrow; clear hrow
    have HF := Lib.hid hfr; clear hfr
    by_cases hk6 : k < 6
    · have hcell := rowI_cell HR.out hk6
      have hfz := HR.out.frozen k
      by_cases hs : (k : Int) = s
      · have hb : ((k : Int) == s) = true := by simp [hs]
        have HS := Lib.hid hs; clear hs
        go_wp2
        go_roundw
        case rel => exact ⟨k + 1, by omega, by go_num, rowI_set (rowI_set HR.out k 200 (fun _ _ => rfl)) k 0 (by
          intro j hj
          by_cases e : j = k
          · subst e; simp [startK, Lk.start, HS.out]
          · have : j < k + 1 ↔ j < k := by omega
            simp [startK, e, this]), ((HF.out.setNew (Nat.le_refl _) _ _).setNew (Nat.le_refl _) _ _)⟩
        case measure => simp [intOf]; omega
      · have hb : ((k : Int) == s) = false := by simp [hs]
        have HS := Lib.hid hs; clear hs
        go_wp2
        go_roundw
        case rel => exact ⟨k + 1, by omega, by go_num, rowI_set HR.out k 200 (by
          intro j hj
          by_cases e : j = k
          · subst e; simp [startK, Lk.start, HS.out]
          · have : j < k + 1 ↔ j < k := by omega
            simp [startK, e, this]), (HF.out.setNew (Nat.le_refl _) _ _)⟩
        case measure => simp [intOf]; omega
    · have e6 : k = 6 := by omega
      have HR := Lib.hid ((HR.out.congr (g := I (Lk.start s)) (by intro i hi; simp [I, startK, hi, e6])))
      clear e6
      go_wp2
      obtain ⟨w1, rfl⟩ : ∃ w1 : World, w1 = wr := ⟨_, rfl⟩
      go_loopw [7] (fun i wr => ∃ k : Nat, k ≤ 6 ∧ i = .int .i64 k ∧ wr.rowIs w.heap.size 3 6 (I (Lk.bfK C (Lk.start s) k)) ∧ Fr NoB w wr) (fun i _ => 6 - (intOf i).toNat)
      case atStart => exact ⟨0, by omega, rfl, HR.out, HF.out⟩
      case round =>
        clear HR HF
        obtain ⟨k, hk, rfl, hrow, hfr⟩ := hrel
        have HR := Lib.hid hrow; clear hrow
        have HF := Lib.hid hfr; clear hfr
        by_cases hk6 : k < 6
        · have hkb : decide ((k : Int) < 6) = true := by simp; omega
          go_wp2
          obtain ⟨w2, rfl⟩ : ∃ w2 : World, w2 = wr := ⟨_, rfl⟩
          go_loopw [8] (fun i wr => ∃ a : Nat, a ≤ 6 ∧ i = .int .i64 a ∧ wr.rowIs w.heap.size 3 6 (I (Lk.bfA C (Lk.bfK C (Lk.start s) k) a)) ∧ Fr NoB w wr) (fun i _ => 6 - (intOf i).toNat)
          case atStart => exact ⟨0, by omega, rfl, HR.out, HF.out⟩
          case round =>
            clear HR HF
            obtain ⟨a, ha, rfl, hrow, hfr⟩ := hrel
            have HR := Lib.hid hrow; clear hrow
            have HF := Lib.hid hfr; clear hfr
            by_cases ha6 : a < 6
            · have hab : decide ((a : Int) < 6) = true := by simp; omega
              go_wp2
              obtain ⟨w3, rfl⟩ : ∃ w3 : World, w3 = wr := ⟨_, rfl⟩
              go_loopw [9] (fun i wr => ∃ j : Nat, j ≤ 6 ∧ i = .int .i64 j ∧ wr.rowIs w.heap.size 3 6 (I (Lk.bfB C a (Lk.bfA C (Lk.bfK C (Lk.start s) k) a) j)) ∧ Fr NoB w wr) (fun i _ => 6 - (intOf i).toNat)
              case atStart => exact ⟨0, by omega, rfl, HR.out, HF.out⟩
              case round =>
                clear HR HF
                obtain ⟨j, hj, rfl, hrow, hfr⟩ := hrel
                have HR := Lib.hid hrow; clear hrow
                have HF := Lib.hid hfr; clear hfr
                by_cases hj6 : j < 6
                · have hbd := Lk.bfB_bd HH.out.lo (Lk.bfA_bd HH.out.lo (Lk.bfK_bd HH.out.lo (Lk.start_bd s) k) a ha) ha6 j hj
                  have hst : Lk.bfB C a (Lk.bfA C (Lk.bfK C (Lk.start s) k) a) (j + 1) = Lk.relax C (Lk.bfB C a (Lk.bfA C (Lk.bfK C (Lk.start s) k) a) j) a j := rfl
                  generalize Lk.bfB C a (Lk.bfA C (Lk.bfK C (Lk.start s) k) a) j = o at *
                  have HST := Lib.hid hst; clear hst
                  have c2 := rowI_cell HR.out ha6
                  have c3 := rowI_cell HR.out hj6
                  have f3 := HR.out.frozen j
                  have c1 := CAt.cell (HF.out.row HC.out (fun h => h)) ha6 hj6
                  have b1 := HH.out.lo a j ha6 hj6
                  have b2 := HH.out.hi a j ha6 hj6
                  obtain ⟨b3, b4⟩ := hbd a ha6
                  obtain ⟨b5, b6⟩ := hbd j hj6
                  clear hbd
                  by_cases g1 : 0 < C a j
                  · by_cases g2 : o a < 200
                    · by_cases g3 : o a + C a j < o j
                      · go_wp2
                        go_quiet (fail)
                        go_wp2
                        go_region
                        go_wp2
                        go_roundw
                        case rel => exact ⟨j + 1, by omega, by go_num, rowI_set HR.out j (o a + C a j) (by
                          intro i hi
                          rw [HST.out, Lk.relax, if_pos ⟨g1, g2, g3⟩]; rfl), (HF.out.drewN _).setNew (Nat.le_refl _) _ _⟩
                        case measure => simp [intOf]; omega
                      · go_wp2
                        go_quiet (fail)
                        go_wp2
                        go_roundw
                        case rel => exact ⟨j + 1, by omega, by go_num, by rw [HST.out, Lk.relax, if_neg (by omega)]; exact HR.out, HF.out.drewN _⟩
                        case measure => simp [intOf]; omega
                    · have g2' : decide (o a < 200) = false := by simpa using g2
                      go_wp2
                      go_quiet (fail)
                      go_wp2
                      go_roundw
                      case rel => exact ⟨j + 1, by omega, by go_num, by rw [HST.out, Lk.relax, if_neg (by omega)]; exact HR.out, HF.out.drewN _⟩
                      case measure => simp [intOf]; omega
                  · have g1' : decide (0 < C a j) = false := by simpa using g1
                    go_wp2
                    go_quiet (fail)
                    go_wp2
                    go_roundw
                    case rel => exact ⟨j + 1, by omega, by go_num, by rw [HST.out, Lk.relax, if_neg (by omega)]; exact HR.out, HF.out.drewN _⟩
                    case measure => simp [intOf]; omega
                · obtain rfl : j = 6 := by omega
                  go_wp2
                  go_roundw
                  case rel => exact ⟨a + 1, by omega, by go_num, HR.out, HF.out⟩
                  case measure => simp [intOf]; omega
            · obtain rfl : a = 6 := by omega
              go_wp2
              go_roundw
              case rel => exact ⟨k + 1, by omega, by go_num, HR.out, HF.out⟩
              case measure => simp [intOf]; omega
        · obtain rfl : k = 6 := by omega
          go_wp2
          go_ret
          exact ⟨_, rfl, Nat.le_refl _, HR.out, HF.out⟩
end Go.Proofs.Ytdpgbgapelgomaa
