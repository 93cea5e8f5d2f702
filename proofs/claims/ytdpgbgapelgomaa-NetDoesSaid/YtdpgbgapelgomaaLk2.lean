/- Walks over package links: Of. -/
import Derived.Test.YtdpgbgapelgomaaLk1
namespace Go.Proofs.Ytdpgbgapelgomaa
open Go.RowKit Go.Deep

def ofL (C : Nat → Nat → Int) (a : Nat) (k : Nat) : List Nat := (List.range k).filter (fun b => decide (0 < C a b))
theorem ofL_hit (C : Nat → Nat → Int) (a k : Nat) (h : 0 < C a k) : ofL C a (k + 1) = ofL C a k ++ [k] := by simp [ofL, List.range_succ, h]
theorem ofL_miss (C : Nat → Nat → Int) (a k : Nat) (h : ¬ 0 < C a k) : ofL C a (k + 1) = ofL C a k := by simp [ofL, List.range_succ, h]
theorem ofL_le (C : Nat → Nat → Int) (a k : Nat) : (ofL C a k).length ≤ k := by
  have := List.length_filter_le (fun b => decide (0 < C a b)) (List.range k)
  simpa [ofL] using this
def ints (l : List Nat) : List Int := l.map (fun (n : Nat) => (n : Int))

theorem Try.info3 : (Try.prog.info? 3).map (fun i => (i.zero, i.size, i.bytes)) = some (some (.int .i64 0), 1, 8) := by kernel_rfl

def OfPost (C : Nat → Nat → Int) (a : Nat) (w : World) (e : Ending) (w' : World) : Prop := ∃ v, e = .returned v ∧ Sl w' w.heap.size v (ints (ofL C a 6)) ∧ Fr NoB w w'

set_option maxHeartbeats 1000000 in
theorem Of_yes (b a : Nat) (C : Nat → Nat → Int) (w : World) (ha : a < 6) (hC : CAt w b 103 C) :
    Calls Try.prog 25 #[.pointer (some ⟨b, 0, none⟩), .int .i64 a] w (OfPost C a w) := by
  have HC := Lib.hid hC; clear hC
  go_enter Try.func25, Try.ntmps25
  go_wp2
  go_loopw [5, 7] (fun v i wr => ∃ k : Nat, k ≤ 6 ∧ i = .int .i64 k ∧ Sl wr w.heap.size v (ints (ofL C a k)) ∧ Fr NoB w wr) (fun _ i _ => 6 - (intOf i).toNat)
  case atStart => exact ⟨0, by omega, rfl, Sl.nil _ _, Fr.refl _ _⟩
  case round =>
    obtain ⟨k, hk, rfl, hown, hfr⟩ := hrel
    have HO := Lib.hid hown; clear hown
    have HF := Lib.hid hfr; clear hfr
    by_cases hk6 : k < 6
    · by_cases hp : 0 < C a k
      · go_wp2_with fail
        refine (Cost_yes _ _ _ C _ ha hk6 (HF.out.row HC.out (fun h => h))).mono ?_; rintro e w' ⟨rfl, rfl⟩
        go_wp2_with (at_builtin; go_loud (refine app_int rfl (.tmp 15) (.tmp 17) 30 rfl Try.underlying30 Try.info3 w.heap.size u5 (ints (ofL C a k)) rfl (HO.out.alloc _) ⟨wr.heap.size, 0, none⟩ k rfl (by simp) ?h1 ?h2 ?_))
        case h1 => have := ofL_le C a k; simp [ints]; omega
        case h2 => have := HF.out.size; simp; omega
        · intro v' w1 h1 h2
          have H1 := Lib.hid h1; clear h1
          have H2 := Lib.hid h2; clear h2
          go_wp2
          go_roundw
          case rel => exact ⟨k + 1, by omega, by go_num, by rw [ofL_hit C a k hp]; simpa [ints] using H1.out, (HF.out.alloc _).own H2.out⟩
          case measure => simp [intOf]; omega
      · go_wp2_with fail
        refine (Cost_yes _ _ _ C _ ha hk6 (HF.out.row HC.out (fun h => h))).mono ?_; rintro e w' ⟨rfl, rfl⟩
        go_wp2
        go_roundw
        case rel => exact ⟨k + 1, by omega, by go_num, by rw [ofL_miss C a k (by omega)]; exact HO.out, HF.out⟩
        case measure => simp [intOf]; omega
    · obtain rfl : k = 6 := by omega
      go_wp2
      go_ret
      exact ⟨_, rfl, HO.out, HF.out⟩
end Go.Proofs.Ytdpgbgapelgomaa
