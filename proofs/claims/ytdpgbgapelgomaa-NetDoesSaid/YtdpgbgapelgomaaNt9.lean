/- Walks: handpostlaw.played. -/
import Derived.Test.YtdpgbgapelgomaaNt8
namespace Go.Proofs.Ytdpgbgapelgomaa
open Go.RowKit Go.Deep

def PlRel (X : Nat → Int) (n : Nat) (w : World) (x : Ids) (g : Nat) (i : Value) (wr : World) : Prop :=
  ∃ (k : Nat) (v : Value), k ≤ n ∧ g = n - k ∧ i = .int .i64 k ∧ NtR w x v (Nt.runT X k) wr
def PlayedPost (X : Nat → Int) (n : Nat) (w : World) (e : Ending) (w' : World) : Prop := ∃ (x : Ids) (v : Value), e = .returned (.pointer (some ⟨x.b, 0, none⟩)) ∧ NtR w x v (Nt.runT X n) w'
set_option maxRecDepth 100000 in
set_option maxHeartbeats 4000000 in
theorem played_any (a0 : Option Addr) (n c : Nat) (X : Nat → Int) (w : World) (hn : n ≤ 150) (hX : Rd w a0 (n * 6) X) :
    Calls Try.prog 57 #[.slice a0 n c] w (PlayedPost X n w) := by
  have HX := Lib.hid hX; clear hX
  go_enter Try.func57, Try.ntmps57
  go_wp2_with fail
  refine (NewNt _).mono ?_
  rintro e w2 ⟨x, v, rfl, hn1, hf, hnew⟩
  have h1 : NtR w x v Nt.begun w2 := ⟨hn1, hf, hnew⟩
  clear hn1 hf hnew
  have H := Lib.hid h1; clear h1
  go_wp2
  go_loopg [4] n (fun g i wr => PlRel X n w x g i wr)
  case atStart => exact ⟨0, _, by omega, by omega, rfl, H.out⟩
  case round =>
    clear H
    obtain ⟨k, v, hk, hgk, rfl, h2⟩ := hrel
    have HG := Lib.hid hgk; clear hgk
    have H := Lib.hid h2; clear h2
    have HR := Lib.hid (Nt.runT_ok X k)
    by_cases hkn : k < n
    · have hkb : decide ((k : Int) < (n : Int)) = true := by simp; omega
      obtain ⟨b0, o0, rfl, c0⟩ := HX.out (k * 6) (by omega)
      obtain ⟨b1, o1, e1, c1⟩ := HX.out (k * 6 + 1) (by omega)
      obtain ⟨b2, o2, e2, c2⟩ := HX.out (k * 6 + 2) (by omega)
      obtain ⟨b3, o3, e3, c3⟩ := HX.out (k * 6 + 3) (by omega)
      obtain ⟨b4, o4, e4, c4⟩ := HX.out (k * 6 + 4) (by omega)
      obtain ⟨b5, o5, e5, c5⟩ := HX.out (k * 6 + 5) (by omega)
      cases e1; cases e2; cases e3; cases e4; cases e5
      have hst : Nt.runT X (k + 1) = (Nt.doT (Nt.runT X k) (X (k * 6)) (X (k * 6 + 1)) (X (k * 6 + 2)) (X (k * 6 + 3))).1 := rfl
      generalize X (k * 6) = x0 at *
      generalize X (k * 6 + 1) = x1 at *
      generalize X (k * 6 + 2) = x2 at *
      generalize X (k * 6 + 3) = x3 at *
      generalize X (k * 6 + 4) = x4 at *
      generalize X (k * 6 + 5) = x5 at *
      have c0 := cell_fr H.out.f c0 (fun h => h)
      have c1 := cell_fr H.out.f c1 (fun h => h)
      have c2 := cell_fr H.out.f c2 (fun h => h)
      have c3 := cell_fr H.out.f c3 (fun h => h)
      have c4 := cell_fr H.out.f c4 (fun h => h)
      have c5 := cell_fr H.out.f c5 (fun h => h)
      rw [← Nat.add_assoc] at c1 c2 c3 c4 c5
      have HST := Lib.hid hst; clear hst
      go_wp2_with fail
      refine (Do_any x v _ x0 x1 x2 x3 x4 x5 k _ HR.out (by omega) H.out.at_).mono ?_
      rintro e w4 ⟨v4, rfl, ha, hf, hg⟩
      have h4 := H.out.step ha hf hg
      rw [← HST.out] at h4
      clear H HR HST c0 c1 c2 c3 c4 c5 ha hf hg
      generalize (Nt.doT (Nt.runT X k) x0 x1 x2 x3).2 = cc at *
      have H := Lib.hid h4; clear h4
      go_wp2
      go_roundg (n - (k + 1))
      case rel => exact ⟨k + 1, v4, by omega, rfl, by go_num, H.out⟩
      case measure => have := HG.out; omega
    · obtain rfl : k = n := by omega
      go_wp2
      go_ret
      exact ⟨x, v, rfl, H.out⟩
end Go.Proofs.Ytdpgbgapelgomaa
