/- Walks: slices.Index, slices.Contains at integers. -/
import Derived.Test.YtdkkeaegmmepfaaKitI
namespace Go.Proofs.Ytdkkeaegmmepfaa
open Go.RowKit Go.Deep

theorem Sl.at {w : World} {base : Nat} {al : Option Addr} {n c : Nat} {xs : List Int} (h : Sl w base (.slice al n c) xs) {k : Nat} (hk : k < xs.length) : ∃ g, al = some ⟨g, 0, none⟩ ∧ w.cell? ⟨g, k, none⟩ = some (.int .i64 (xs.getD k 0)) := by
  rcases h.shape with ⟨_, rfl⟩ | ⟨g, cap, e, _, _, hc⟩
  · simp at hk
  · cases e
    exact ⟨g, rfl, hc k hk⟩
def IdxPost (xs : List Int) (y : Int) (w : World) (e : Ending) (w' : World) : Prop := ∃ r : Int, e = .returned (.int .i64 r) ∧ (0 ≤ r ↔ y ∈ xs) ∧ w = w'
def IdxRel (xs : List Int) (y : Int) (w : World) (i : Value) (wr : World) : Prop := ∃ k : Nat, k ≤ xs.length ∧ i = .int .i64 k ∧ (∀ j, j < k → xs.getD j 0 ≠ y) ∧ wr = w
set_option maxHeartbeats 1000000 in
theorem Index_any (base : Nat) (v : Value) (xs : List Int) (y : Int) (w : World) (hl : xs.length ≤ 1000000) (h : Sl w base v xs) :
    Calls Try.prog 71 #[v, .int .i64 y] w (IdxPost xs y w) := by
  obtain ⟨al, c, rfl, j⟩ := ownsRow_rd h
  clear j
  have H := Lib.hid h; clear h
  go_enter Try.func71, Try.ntmps71
  go_wp2
  go_loopw [8] (fun i wr => IdxRel xs y w i wr) (fun i _ => xs.length - (intOf i).toNat)
  case atStart => exact ⟨0, by omega, rfl, fun j h => by omega, rfl⟩
  case round =>
    obtain ⟨k, hk, rfl, hne, rfl⟩ := hrel
    have HNE := Lib.hid hne; clear hne
    by_cases hkn : k < xs.length
    · obtain ⟨g, rfl, cg⟩ := Sl.at H.out hkn
      have hmem : xs.getD k 0 ∈ xs := by simp [hkn]
      generalize hz : xs.getD k 0 = z at *
      by_cases he : y = z
      · have heb : (y == z) = true := by simp [he]
        have hm : y ∈ xs := by rw [he]; exact hmem
        clear hmem hz he
        have HM := Lib.hid hm; clear hm
        go_wp2
        go_ret
        exact ⟨k, rfl, ⟨fun _ => HM.out, fun _ => by omega⟩, rfl⟩
      · have heb : (y == z) = false := by simpa using he
        have hne : ∀ j, j < k + 1 → xs.getD j 0 ≠ y := fun j hj => by
          by_cases e : j = k
          · rw [e, hz]; exact fun h => he h.symm
          · exact HNE.out j (by omega)
        clear hmem hz he HNE
        have HNE := Lib.hid hne; clear hne
        go_wp2
        go_roundw
        case rel => exact ⟨k + 1, by omega, by go_num, HNE.out, rfl⟩
        case measure => simp [intOf]; omega
    · have hm : ¬ y ∈ xs := fun hm => by
        obtain ⟨j, hj, e⟩ := List.mem_iff_getElem.1 hm
        exact HNE.out j (by omega) (by simp [hj, e])
      clear HNE
      have HM := Lib.hid hm; clear hm
      go_wp2
      go_ret
      exact ⟨-1, rfl, ⟨fun h => by omega, fun h => absurd h HM.out⟩, rfl⟩
set_option maxHeartbeats 1000000 in
theorem Contains_any (base : Nat) (v : Value) (xs : List Int) (y : Int) (w : World) (hl : xs.length ≤ 1000000) (h : Sl w base v xs) :
    Calls Try.prog 57 #[v, .int .i64 y] w fun e w' => e = .returned (.bool (decide (y ∈ xs))) ∧ w = w' := by
  have H := Lib.hid h; clear h
  go_enter Try.func57, Try.ntmps57
  go_wp2_with fail
  refine (Index_any base v xs y _ hl H.out).mono ?_
  rintro e w1 ⟨r, rfl, hr, rfl⟩
  have hd : decide (0 ≤ r) = decide (y ∈ xs) := decide_eq_decide.2 hr
  have HD := Lib.hid hd; clear hd
  clear hr
  go_wp2
  go_ret
  exact ⟨ret_bool HD.out, rfl⟩
end Go.Proofs.Ytdkkeaegmmepfaa
