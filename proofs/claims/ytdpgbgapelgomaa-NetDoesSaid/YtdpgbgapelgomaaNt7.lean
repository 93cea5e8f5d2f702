/- Walks: handpostlaw.netBegun. -/
import Derived.Test.YtdpgbgapelgomaaNt6
namespace Go.Proofs.Ytdpgbgapelgomaa
open Go.RowKit Go.Deep

def Nt.tb1 : Nt.NT := (Nt.doT Nt.begun 1 0 1 3).1
def Nt.tb2 : Nt.NT := (Nt.doT Nt.tb1 3 0 1 0).1
def Nt.tb3 : Nt.NT := (Nt.doT Nt.tb2 4 0 0 0).1
theorem tb1_c : (Nt.doT Nt.begun 1 0 1 3).2 = 0 := by decide +kernel
theorem tb2_c : (Nt.doT Nt.tb1 3 0 1 0).2 = 0 := by decide +kernel
theorem tb3_c : (Nt.doT Nt.tb2 4 0 0 0).2 = 0 := by decide +kernel
theorem tb3_p : pathT Nt.tb3 1 0 = ([1, 0], true) := by decide +kernel
theorem tb3_n : Nt.tb3.news.length = 5 := by decide +kernel
theorem tb3_s : (Nt.tb3.N 1).wS 0 = 0 := by decide +kernel
theorem tb3_d : (Nt.tb3.N 1).wD 0 = 3 := by decide +kernel
theorem tb3_h : (Nt.tb3.N 1).wH 0 = 0 := by decide +kernel

set_option maxRecDepth 100000 in
set_option maxHeartbeats 4000000 in
theorem netBegun_true (w : World) : Calls Try.prog 43 #[] w (TrueFr w) := by
  have R1 : Nt.NOk Nt.tb1 1 := Nt.NOk.begun.doT 1 0 1 3
  have R2 : Nt.NOk Nt.tb2 2 := R1.doT 3 0 1 0
  have R3 : Nt.NOk Nt.tb3 3 := R2.doT 4 0 0 0
  have HR1 := Lib.hid R1; clear R1; have HR2 := Lib.hid R2; clear R2; have HR3 := Lib.hid R3; clear R3
  go_enter Try.func43, Try.ntmps43
  go_wp2_with fail
  refine (NewNt _).mono ?_
  rintro e w1 ⟨x, v, rfl, hn, hf, hnew⟩
  have hn : NtR w x v Nt.begun w1 := ⟨hn, hf, hnew⟩
  clear hf hnew
  have HN := Lib.hid hn; clear hn
  go_wp2_with fail
  refine (Do_any x v _ 1 0 1 3 0 0 0 _ Nt.NOk.begun (by omega) HN.out.at_).mono ?_
  rintro e w2 ⟨v2, rfl, ha, hf, hg⟩
  have hn : NtR w x v2 Nt.tb1 w2 := HN.out.step ha hf hg
  rw [tb1_c]
  clear HN ha hf hg
  have HN := Lib.hid hn; clear hn
  go_wp2_with fail
  refine (Do_any x v2 _ 3 0 1 0 0 0 1 _ HR1.out (by omega) HN.out.at_).mono ?_
  rintro e w3 ⟨v3, rfl, ha, hf, hg⟩
  have hn : NtR w x v3 Nt.tb2 w3 := HN.out.step ha hf hg
  rw [tb2_c]
  clear HN ha hf hg
  have HN := Lib.hid hn; clear hn
  go_wp2_with fail
  refine (Do_any x v3 _ 4 0 0 0 0 0 2 _ HR2.out (by omega) HN.out.at_).mono ?_
  rintro e w4 ⟨v4, rfl, ha, hf, hg⟩
  have hn : NtR w x v4 Nt.tb3 w4 := HN.out.step ha hf hg
  rw [tb3_c]
  clear HN ha hf hg
  have HN := Lib.hid hn; clear hn
  go_wp2_with fail
  refine (Path_any x v4 _ 1 0 _ HN.out.at_).mono ?_
  rintro e w5 ⟨pv, rfl, hp, hf⟩
  have hn := HN.out.keep hf
  rw [tb3_p] at hp ⊢
  clear HN hf
  have HN := Lib.hid hn; clear hn; have HP := Lib.hid hp; clear hp
  go_wp2_with fail
  refine (News_any x v4 _ _ (by rw [tb3_n]; omega) HN.out.at_).mono ?_
  rintro e w6 ⟨nv, rfl, hv, hf⟩
  have hn := HN.out.keep hf
  have hp := Sl.keep HP.out hf (fun _ _ h => h)
  obtain ⟨na, nc, rfl, j⟩ := ownsRow_rd hv
  rw [tb3_n]
  clear HN hf HP hv j
  have HN := Lib.hid hn; clear hn; have HP := Lib.hid hp; clear hp
  go_wp2_with fail
  refine (NWay_in x v4 _ 1 0 _ (by omega) (by omega) HN.out.at_).mono ?_
  rintro e w7 ⟨rfl, hf⟩
  have hn := HN.out.keep hf
  have hp := Sl.keep HP.out hf (fun _ _ h => h)
  rw [tb3_s, tb3_d, tb3_h]
  obtain ⟨pa, pc, rfl, hrd, j⟩ := ownsRow_rd hp
  clear HN hf HP hp j
  have HN := Lib.hid hn; clear hn; have HRD := Lib.hid hrd; clear hrd
  go_wp2_with fail
  have hb : (w7.alloc (.cells #[.int .i64 1, .int .i64 0] 3)).rowIs w7.heap.size 3 2 (I (fun i => [(1 : Int), 0].getD i 0)) := World.rowIs_alloc w7 #[.int .i64 1, .int .i64 0] _ _ (fun i hi => by
    match i, hi with
    | 0, _ => rfl
    | 1, _ => rfl)
  refine (SameInts_any pa (some ⟨w7.heap.size, 0, none⟩) 2 2 pc 2 (fun i => [(1 : Int), 0].getD i 0) (fun i => [(1 : Int), 0].getD i 0) _ (by omega) (by omega) (Rd.keep HRD.out ((Fr.refl NoB _).alloc _) (fun _ _ h => h)) (Rd.row hb)).mono ?_
  rintro e w8 ⟨r, rfl, hr, j, rfl⟩
  obtain rfl : r = true := hr.2 ⟨rfl, fun _ _ => rfl⟩
  clear hr hb
  go_wp2
  go_ret
  exact ⟨rfl, (HN.out.f.alloc _).drewN _⟩
end Go.Proofs.Ytdpgbgapelgomaa
