/- Walks: trie.Same. -/
import Derived.Test.YtdkkeaegmmepfaaTr3
namespace Go.Proofs.Ytdkkeaegmmepfaa
open Go.RowKit Go.Deep

def TsRel (f g : Nat → Int) (w : World) (i : Value) (wr : World) : Prop := ∃ k : Nat, (k : Int) ≤ 256 ∧ i = .int .i64 k ∧ Hid (∀ j, j < k → f j = g j) ∧ Hid (Fr NoB w wr)
def TsPost (f g : Nat → Int) (w : World) (e : Ending) (w' : World) : Prop := ∃ r : Bool, e = .returned (.bool r) ∧ (r = true ↔ ∀ n, n < 256 → f n = g n) ∧ Fr NoB w w'
set_option maxRecDepth 100000 in
set_option maxHeartbeats 4000000 in
theorem TSame_any (t u : Nat) (v v' : Value) (L M : List Tb.Rt) (w : World) (hl : L.length ≤ 1000) (hm : M.length ≤ 1000) (hw : Tb.Wf L) (hw' : Tb.Wf M) (h : TAt w t v L) (h' : TAt w u v' M) :
    Calls Try.prog 14 #[.pointer (some ⟨t, 0, none⟩), .pointer (some ⟨u, 0, none⟩)] w (TsPost (fun n => Tb.look L n) (fun n => Tb.look M n) w) := by
  obtain ⟨a, c, rfl, hr, _, hc⟩ := h.shape
  obtain ⟨a', c', rfl, hr', _, hc'⟩ := h'.shape
  have HC := Lib.hid hc
  have HC' := Lib.hid hc'
  have HR := Lib.hid hr; clear hr; have HW := Lib.hid hw; clear hw; have HR' := Lib.hid hr'; clear hr'; have HW' := Lib.hid hw'; clear hw'
  clear h h' hc hc'
  go_enter Try.func14, Try.ntmps14
  go_wp2_with fail
  refine (All_any t a c L _ hl HW.out HR.out HC.out).mono ?_
  rintro e w1 ⟨g, rfl, _, hrow, hf⟩
  have HF1 := Lib.hid hf
  have HA := Lib.hid hrow
  clear hf hrow
  go_wp2_with fail
  refine (All_any u a' c' M _ hm HW'.out (HR'.out.keep0 HF1.out) (cell_fr' HF1.out HC'.out (fun h => h))).mono ?_
  rintro e w2 ⟨g', rfl, _, hrow, hf⟩
  have HF2 := Lib.hid (HF1.out.trans hf)
  have HA2 := Lib.hid (hf.row HA.out (fun h => h))
  have HB2 := Lib.hid hrow
  clear hf hrow
  go_wp2
  go_loopw [14] (fun i wr => TsRel (fun n => Tb.look L n) (fun n => Tb.look M n) w2 i wr) (fun i _ => 256 - (intOf i).toNat)
  case atStart => exact ⟨0, by omega, rfl, fun j hj => by omega, Fr.refl _ _⟩
  case round =>
    obtain ⟨n, hn, rfl, heq, hf⟩ := hrel
    by_cases hnn : (n : Int) < 256
    · have c1 := cell_fr' hf.out (rowI_cell HA2.out (i := n) (by omega)) (fun h => h)
      have c2 := cell_fr' hf.out (rowI_cell HB2.out (i := n) (by omega)) (fun h => h)
      (try dsimp only at c1 c2)
      by_cases e : Tb.look L n = Tb.look M n
      · have HX := Lib.hid e
        rw [← e] at c2
        clear e
        go_wp2
        go_quiet (fail)
        go_wp2
        go_roundw
        case rel => exact ⟨n + 1, by omega, by go_num, fun j hj => by
          by_cases e : j = n
          · rw [e]; exact HX.out
          · exact heq.out j (by omega), hf.out.drewN _⟩
        case measure => simp [intOf]; omega
      · have hb : (Tb.look L n != Tb.look M n) = true := by simp [e]
        have HX := Lib.hid e
        clear e
        go_wp2
        go_quiet (fail)
        go_wp2
        go_ret
        exact ⟨false, rfl, ⟨fun h => (by cases h), fun h => absurd (h n (by omega)) HX.out⟩, HF2.out.trans (hf.out.drewN _)⟩
    · go_wp2
      go_ret
      exact ⟨true, rfl, ⟨fun _ j hj => heq.out j (by omega), fun _ => rfl⟩, HF2.out.trans hf.out⟩
end Go.Proofs.Ytdkkeaegmmepfaa
