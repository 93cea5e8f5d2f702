/- Walks over package node: New. -/
import Derived.Test.YtdpgbgapelgomaaNd5
namespace Go.Proofs.Ytdpgbgapelgomaa
open Go.RowKit Go.Deep

theorem zcN : Try.zeroCells110 = Array.replicate 109 (.int .i64 0) := by kernel_rfl
theorem newK_zero (me j : Nat) (h0 : 0 < j) : Nd.flat (Nd.newK me 0) j = 0 := by
  unfold Nd.flat Nd.newK
  simp
  omega
theorem zeros109 (w : World) (me : Nat) (t : TypeId) : NAt (w.alloc (.cells ((Array.replicate 109 (.int .i64 0)).setIfInBounds 0 (.int .i64 me)) t)) w.heap.size t (Nd.newK me 0) := by
  have k := World.rowIs_alloc w ((Array.replicate 109 (.int .i64 0)).setIfInBounds 0 (.int .i64 me)) t (I (Nd.flat (Nd.newK me 0))) (by
    intro i hi
    have hi' : i < 109 := by simpa using hi
    match i with
    | 0 => rw [Array.getElem?_setIfInBounds]; simp [I, Nd.flat_me, Nd.newK]
    | i + 1 =>
      rw [Array.getElem?_setIfInBounds, if_neg (by omega), Array.getElem?_replicate, if_pos hi', I, newK_zero me (i + 1) (by omega)])
  simp at k
  exact k

theorem New_no (me : Int) (w : World) (h : ¬ (0 ≤ me ∧ me < 6)) : Calls Try.prog 29 #[.int .i64 me] w fun e w' => e = .returned (.pointer none) ∧ w = w' := by
  have H := Lib.hid h; clear h
  go_enter Try.func29, Try.ntmps29
  go_wp2_with fail
  refine (Node_no _ _ H.out).mono ?_; rintro e w' ⟨rfl, rfl⟩
  go_wp2
  go_ret
  exact ⟨rfl, rfl⟩

def NewNPost (me : Nat) (t : TypeId) (w : World) (e : Ending) (w' : World) : Prop := e = .returned (.pointer (some ⟨w.heap.size, 0, none⟩)) ∧ NAt w' w.heap.size t (Nd.fresh me) ∧ Fr NoB w w'
def NwRel (me : Nat) (t : TypeId) (w : World) (i : Value) (wr : World) : Prop := ∃ k : Nat, k ≤ 6 ∧ i = .int .i64 k ∧ NAt wr w.heap.size t (Nd.newK me k) ∧ Fr NoB w wr

set_option maxRecDepth 100000 in
set_option maxHeartbeats 4000000 in
theorem New_yes (me : Nat) (w : World) (h : me < 6) : Calls Try.prog 29 #[.int .i64 me] w (NewNPost me 110 w) := by
  go_enter Try.func29, Try.ntmps29
  go_wp2_with fail
  refine (Node_yes _ _ (by omega) (by omega)).mono ?_; rintro e w' ⟨rfl, rfl⟩
  go_wp2
  refine wp_name fun w1 hw1 => ?_
  have hf1 : Fr NoB w w1 := by rw [hw1]; exact (Fr.refl _ w).alloc _
  have hn1 : NAt w1 w.heap.size 110 (Nd.newK me 0) := by
    rw [hw1, zcN]
    exact zeros109 w me _
  clear hw1
  have HF1 := Lib.hid hf1; clear hf1; have HN1 := Lib.hid hn1; clear hn1
  go_loopw [11] (fun i wr => NwRel me 110 w i wr) (fun i _ => 6 - (intOf i).toNat)
  case atStart => exact ⟨0, by omega, rfl, HN1.out, HF1.out⟩
  case round =>
    clear HN1 HF1
    obtain ⟨k, hk, rfl, hn, hf⟩ := hrel
    have hs := hf.size
    have HF := Lib.hid hf; clear hf; have HS := Lib.hid hs; clear hs
    by_cases hk6 : k < 6
    · have g0 := hn.wS hk6
      have g1 := hn.wD hk6
      have g2 := hn.wH hk6
      have e0 := hn.bS hk6
      have e1 := hn.bD hk6
      have f0 := hn.fz (79 + k * 3)
      have f1 := hn.fz (79 + k * 3 + 1)
      have f2 := hn.fz (79 + k * 3 + 2)
      have f3 := hn.fz (97 + k * 2)
      have f4 := hn.fz (97 + k * 2 + 1)
      have HN := Lib.hid hn; clear hn
      go_wp2_with fail
      refine (forget_any _ k (Nd.newW me k) _ hk6 ((HN.out.setW hk6 0 200 (-1)).setB hk6 0 200)).mono ?_
      rintro e w2 ⟨rfl, hn2, hf2⟩
      have hf3 : Fr NoB w w2 := ((((((HF.out.setNew (Nat.le_refl _) _ _).setNew (Nat.le_refl _) _ _).setNew (Nat.le_refl _) _ _).setNew (Nat.le_refl _) _ _).setNew (Nat.le_refl _) _ _).trans' hf2 (fun i hi h => absurd h (by unfold OneB; omega)))
      clear hf2 g0 g1 g2 e0 e1 f0 f1 f2 f3 f4
      have HN2 := Lib.hid hn2; clear hn2; have HF2 := Lib.hid hf3; clear hf3
      go_wp2
      go_roundw
      case rel => exact ⟨k + 1, by omega, by go_num, by rw [Nd.newK_succ]; exact HN2.out, HF2.out⟩
      case measure => simp [intOf]; omega
    · obtain rfl : k = 6 := by omega
      have HN := Lib.hid hn; clear hn
      go_wp2_with fail
      refine (own_any _ (Nd.newK me 6) _ h HN.out).mono ?_
      rintro e w2 ⟨rfl, hn2, hf2⟩
      have hf3 : Fr NoB w w2 := HF.out.trans' hf2 (fun i hi h => absurd h (by unfold OneB; omega))
      clear hf2
      have HN2 := Lib.hid hn2; clear hn2; have HF2 := Lib.hid hf3; clear hf3
      go_wp2
      go_ret
      exact ⟨rfl, HN2.out, HF2.out⟩

end Go.Proofs.Ytdpgbgapelgomaa
