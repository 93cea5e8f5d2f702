/- Walks: handpostlaw.nodeBegun; Way and Best of a node that there is. -/
import Derived.Test.YtdpgbgapelgomaaNd11
namespace Go.Proofs.Ytdpgbgapelgomaa
open Go.RowKit Go.Deep

def WayIn (s : Nd.NS) (k : Nat) (w : World) (e : Ending) (w' : World) : Prop := e = .returned (.agg #[.int .i64 (s.wS k), .int .i64 (s.wD k), .int .i64 (s.wH k)]) ∧ Fr NoB w w'
theorem Way_in (b k : Nat) (s : Nd.NS) (w : World) (hk : k < 6) (hn : NAt w b 110 s) :
    Calls Try.prog 35 #[.pointer (some ⟨b, 0, none⟩), .int .i64 k] w (WayIn s k w) := by
  refine (Way_any b k s w hn).mono ?_
  rintro e w' ⟨rfl, hf⟩
  have hw : Nd.wayAt s (k : Int) = Nd.wayOf s k := by rw [Nd.wayAt, if_pos ⟨by omega, by omega⟩, Int.toNat_natCast]
  exact ⟨by rw [hw]; rfl, hf⟩
theorem SameNews_fr (a b : Option Addr) (n c d : Nat) (X : Nat → Int) (w : World) (hn : n ≤ 2147483648) (ha : Rd w a (n * 5) X) (hb : Rd w b (n * 5) X) :
    Calls Try.prog 36 #[.slice a n c, .slice b n d] w (TrueFr w) := by
  refine (SameNews_eq a b n c d X w hn ha hb).mono ?_
  rintro e w' ⟨rfl, j, rfl⟩
  exact ⟨rfl, (Fr.refl _ _).drewN j⟩
def BestIn (s : Nd.NS) (k : Nat) (w : World) (e : Ending) (w' : World) : Prop := e = .returned (.tuple #[.int .i64 (s.bS k), .int .i64 (s.bD k)]) ∧ Fr NoB w w'
theorem Best_in (b k : Nat) (s : Nd.NS) (w : World) (hk : k < 6) (hn : NAt w b 110 s) :
    Calls Try.prog 39 #[.pointer (some ⟨b, 0, none⟩), .int .i64 k] w (BestIn s k w) := by
  refine (Best_any b k s w hn).mono ?_
  rintro e w' ⟨rfl, j, rfl⟩
  have hw : Nd.bestAt s (k : Int) = (s.bS k, s.bD k) := by rw [Nd.bestAt, if_pos ⟨by omega, by omega⟩, Int.toNat_natCast]
  exact ⟨by rw [hw], (Fr.refl _ _).drewN j⟩

theorem fieldHop (a b c : Int) (w : World) : (Instr.field 56 (.agg #[.int .i64 a, .int .i64 b, .int .i64 c]) 2).run Try.prog w = .ok (.int .i64 c) w := by kernel_rfl
theorem fieldDist (a b c : Int) (w : World) : (Instr.field 56 (.agg #[.int .i64 a, .int .i64 b, .int .i64 c]) 1).run Try.prog w = .ok (.int .i64 b) w := by kernel_rfl
theorem fieldSeq (a b c : Int) (w : World) : (Instr.field 56 (.agg #[.int .i64 a, .int .i64 b, .int .i64 c]) 0).run Try.prog w = .ok (.int .i64 a) w := by kernel_rfl
def Nd.nb1 : Nd.NS := (Nd.linkC (Nd.fresh 1) 2 3).1
def Nd.nb2 : Nd.NS := (Nd.hearC Nd.nb1 2 4 1 5).1
def Nd.nb3 : Nd.NS := (Nd.hearC Nd.nb2 2 4 1 9).1
theorem nb1_c : (Nd.linkC (Nd.fresh 1) 2 3).2 = 0 := by decide +kernel
theorem nb2_c : (Nd.hearC Nd.nb1 2 4 1 5).2 = 0 := by decide +kernel
theorem nb3_c : (Nd.hearC Nd.nb2 2 4 1 9).2 = 0 := by decide +kernel
theorem nb3_w4 : Nd.nb3.wH 4 = -1 := by decide +kernel
theorem nb3_w1 : Nd.nb3.wH 1 = 1 := by decide +kernel
theorem nb_bet : Nd.betB 2 9 1 1 = true := by decide +kernel

set_option maxRecDepth 100000 in
set_option maxHeartbeats 2000000 in
theorem nodeBegun_true (w : World) : Calls Try.prog 28 #[] w (TrueFr w) := by
  have R1 : Nd.Run Nd.nb1 1 := ((Nd.Run.fresh (me := 1) (by omega)).linkC 2 3).mono (by omega)
  have R2 : Nd.Run Nd.nb2 1 := R1.hearC 2 4 1 5
  have R3 : Nd.Run Nd.nb3 1 := R2.hearC 2 4 1 9
  have HR1 := Lib.hid R1; clear R1; have HR2 := Lib.hid R2; clear R2; have HR3 := Lib.hid R3; clear R3
  have hfd := fieldHop
  go_enter Try.func28, Try.ntmps28
  go_wp2_with fail
  refine (New_yes 1 _ (by omega)).mono ?_
  rintro e w1 ⟨rfl, hn, hf⟩
  have HN := Lib.hid hn; clear hn; have HF := Lib.hid hf; clear hf
  go_wp2_with fail
  refine (New_no (-1) _ (by omega)).mono ?_
  rintro e w2 ⟨rfl, rfl⟩
  go_wp2_with fail
  refine (Link_any _ 2 3 _ _ (Nd.Ok.fresh (by omega)) HN.out).mono ?_
  rintro e w3 ⟨rfl, hn, hf⟩
  have hf := HF.out.trans' hf (fun i hi h => absurd h (Nat.ne_of_lt hi))
  have hn : NAt w3 w.heap.size 110 Nd.nb1 := hn
  rw [nb1_c]
  clear HN HF
  have HN := Lib.hid hn; clear hn; have HF := Lib.hid hf; clear hf
  go_wp2_with fail
  refine (Hear_any _ 2 0 4 1 5 _ _ HR1.out.ok HN.out).mono ?_
  rintro e w4 ⟨rfl, hn, hf⟩
  have hf := HF.out.trans' hf (fun i hi h => absurd h (Nat.ne_of_lt hi))
  have hn : NAt w4 w.heap.size 110 Nd.nb2 := hn
  rw [nb2_c]
  clear HN HF
  have HN := Lib.hid hn; clear hn; have HF := Lib.hid hf; clear hf
  go_wp2_with fail
  refine (Hear_any _ 2 0 4 1 9 _ _ HR2.out.ok HN.out).mono ?_
  rintro e w5 ⟨rfl, hn, hf⟩
  have hf := HF.out.trans' hf (fun i hi h => absurd h (Nat.ne_of_lt hi))
  have hn : NAt w5 w.heap.size 110 Nd.nb3 := hn
  rw [nb3_c]
  clear HN HF
  have HN := Lib.hid hn; clear hn; have HF := Lib.hid hf; clear hf
  go_wp2_with fail
  refine (Way_in _ 4 _ _ (by omega) HN.out).mono ?_
  rintro e w6 ⟨rfl, hf⟩
  have hn := HN.out.keep hf (fun h => h)
  have hf := HF.out.trans hf
  rw [nb3_w4]
  clear HN HF
  have HN := Lib.hid hn; clear hn; have HF := Lib.hid hf; clear hf
  go_wp2_with fail
  refine (Way_in _ 1 _ _ (by omega) HN.out).mono ?_
  rintro e w7 ⟨rfl, hf⟩
  have hn := HN.out.keep hf (fun h => h)
  have hf := HF.out.trans hf
  rw [nb3_w1]
  clear HN HF
  have HN := Lib.hid hn; clear hn; have HF := Lib.hid hf; clear hf
  go_wp2_with fail
  refine (Tell_any _ 2 _ _ HN.out).mono ?_
  rintro e w8 ⟨v, rfl, hv, hf⟩
  have hf := HF.out.trans hf
  clear HN HF
  obtain ⟨a, cap, rfl, _⟩ := ownsRow_rd hv
  clear hv
  have HF := Lib.hid hf; clear hf
  go_wp2_with fail
  refine (Better_any _ _ _ _ _).mono ?_
  rintro e w9 ⟨rfl, hf⟩
  have hf := HF.out.trans hf
  rw [nb_bet]
  clear HF
  have HF := Lib.hid hf; clear hf
  go_wp2
  go_ret
  exact ⟨rfl, HF.out⟩
end Go.Proofs.Ytdpgbgapelgomaa
