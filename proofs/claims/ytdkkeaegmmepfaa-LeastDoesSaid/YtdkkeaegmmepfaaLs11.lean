/- Walk: leastBegun. -/
import Derived.Test.YtdkkeaegmmepfaaLs10
import Derived.Test.YtdkkeaegmmepfaaLsMath
namespace Go.Proofs.Ytdkkeaegmmepfaa
open Go.RowKit Go.Deep

theorem e_c1 : Tb.setC [] ⟨1, 0⟩ 3 = 0 := by decide
theorem e_1 : Tb.setL [] ⟨1, 0⟩ 3 = [⟨⟨1, 0⟩, 3⟩] := by decide
theorem e_c2 : Tb.setC [⟨⟨1, 0⟩, 3⟩] ⟨2, 2⟩ 3 = 0 := by decide
theorem e_2 : Tb.setL [⟨⟨1, 0⟩, 3⟩] ⟨2, 2⟩ 3 = [⟨⟨1, 0⟩, 3⟩, ⟨⟨2, 2⟩, 3⟩] := by decide
theorem e_c3 : Tb.setC [⟨⟨1, 0⟩, 3⟩, ⟨⟨2, 2⟩, 3⟩] ⟨2, 3⟩ 4 = 0 := by decide
theorem e_3 : Tb.setL [⟨⟨1, 0⟩, 3⟩, ⟨⟨2, 2⟩, 3⟩] ⟨2, 3⟩ 4 = Tb.E3 := by decide
theorem wfe1 : Tb.Wf [⟨⟨1, 0⟩, 3⟩] := ⟨by decide, by decide⟩
theorem wfe2 : Tb.Wf [⟨⟨1, 0⟩, 3⟩, ⟨⟨2, 2⟩, 3⟩] := ⟨by decide, by decide⟩
theorem wfe : Tb.Wf Tb.E2 := ⟨by decide, by decide⟩
theorem E_look : ∀ n : Nat, n < 256 → Tb.look Tb.E3 n = Tb.look Tb.E2 n := fun n hn => by rw [← Tb.allOf_at _ hn, ← Tb.allOf_at _ hn, Tb.E_same]
theorem TAt.ow0 {w wr : World} {v v' : Value} (h : ∀ g, v.ownBlock = some g → w.heap.size ≤ g) (ho : ∀ g, v'.ownBlock = some g → v.ownBlock = some g ∨ wr.heap.size ≤ g) (hf : w.heap.size ≤ wr.heap.size) : ∀ g, v'.ownBlock = some g → w.heap.size ≤ g := fun g hg => by
  rcases ho g hg with k | k
  · exact h g k
  · omega
set_option maxRecDepth 100000 in
set_option maxHeartbeats 8000000 in
theorem leastBegun_true (w : World) : Calls Try.prog 8 #[] w (TrueFr w) := by
  go_enter Try.func8, Try.ntmps8
  go_wp2_with fail
  refine (NewT _).mono ?_
  rintro e w1 ⟨rfl, hT, hf⟩
  have HT := Lib.hid hT
  have HF := Lib.hid hf
  clear hT hf
  obtain ⟨t, ht⟩ : ∃ t, t = w.heap.size := ⟨_, rfl⟩
  have htl : w.heap.size ≤ t := by omega
  rw [← ht] at HT
  rw [← ht]
  have HTL := Lib.hid htl
  clear ht htl
  go_wp2_with fail
  refine (Set_any t _ [] 1 0 3 _ (by simp) Tb.Wf.nil HT.out).mono ?_
  unfold SetTbPost
  rw [e_c1, e_1]
  rintro e w2 ⟨rfl, v2, hT, hf, ho⟩
  have hv2 := TAt.ow0 (w := w) (fun g h => by cases h) ho HF.out.size
  have hF := HF.out.noB hf HTL.out (fun g h => by cases h)
  clear HF HT
  have HT := Lib.hid hT; clear hT; have HF := Lib.hid hF; clear hF; have HV2 := Lib.hid hv2; clear hv2
  clear hf ho
  go_wp2_with fail
  refine (Set_any t v2 [⟨⟨1, 0⟩, 3⟩] 2 2 3 _ (by simp) wfe1 HT.out).mono ?_
  unfold SetTbPost
  rw [e_c2, e_2]
  rintro e w3 ⟨rfl, v3, hT, hf, ho⟩
  have hv3 := TAt.ow0 HV2.out ho HF.out.size
  have hF := HF.out.noB hf HTL.out HV2.out
  clear HF HT HV2
  have HT := Lib.hid hT; clear hT; have HF := Lib.hid hF; clear hF; have HV3 := Lib.hid hv3; clear hv3
  clear hf ho
  go_wp2_with fail
  refine (Set_any t v3 [⟨⟨1, 0⟩, 3⟩, ⟨⟨2, 2⟩, 3⟩] 2 3 4 _ (by simp) wfe2 HT.out).mono ?_
  unfold SetTbPost
  rw [e_c3, e_3]
  rintro e w4 ⟨rfl, v4, hT, hf, ho⟩
  have hF := HF.out.noB hf HTL.out HV3.out
  clear HF HT HV3
  have HT := Lib.hid hT; clear hT; have HF := Lib.hid hF; clear hF
  clear hf ho
  go_wp2_with fail
  refine (Few_any t v4 Tb.E3 _ (by decide) Tb.E_wf HT.out).mono ?_
  unfold FewPost
  rw [Tb.E_few]
  rintro e w5 (⟨h40, _⟩ | ⟨_, u, v5, rfl, hU, _, _, hf⟩)
  · exact absurd h40 (by decide)
  have hT := HT.out.keep0 hf
  have hF := HF.out.trans hf
  clear HF HT
  have HT := Lib.hid hT; clear hT; have HF := Lib.hid hF; clear hF; have HU := Lib.hid hU; clear hU
  clear hf
  go_wp2_with fail
  refine (ListT_any u v5 Tb.E2 _ (by decide) HU.out).mono ?_
  rintro e w6 ⟨v6, rfl, hv, hf⟩
  obtain ⟨a6, c6, rfl, _⟩ := hv.shape
  have hT := HT.out.keep0 hf
  have hU := HU.out.keep0 hf
  have hF := HF.out.trans hf
  have hl2 : ((Tb.E2.length : Int) == 2) = true := by decide
  clear HF HT HU
  have HT := Lib.hid hT; clear hT; have HF := Lib.hid hF; clear hF; have HU := Lib.hid hU; clear hU
  clear hf hv
  generalize Tb.E2.length = n2 at *
  go_wp2_with fail
  refine (Count_any t v4 Tb.E3 _ (by decide) Tb.E_wf HT.out).mono ?_
  rw [Tb.E_few]
  rintro e w7 ⟨rfl, hf⟩
  have hT := HT.out.keep0 hf
  have hU := HU.out.keep0 hf
  have hF := HF.out.trans hf
  have hl3 : ((Tb.E2.length : Int) == 2) = true := by decide
  clear HF HT HU
  have HT := Lib.hid hT; clear hT; have HF := Lib.hid hF; clear hF; have HU := Lib.hid hU; clear hU
  clear hf
  generalize Tb.E2.length = n3 at *
  go_wp2_with fail
  refine (TSame_any t u v4 v5 Tb.E3 Tb.E2 _ (by decide) (by decide) Tb.E_wf wfe HT.out HU.out).mono ?_
  rintro e w8 ⟨r, rfl, hr, hf⟩
  obtain rfl : r = true := hr.2 E_look
  have hT := HT.out.keep0 hf
  have hU := HU.out.keep0 hf
  have hF := HF.out.trans hf
  clear HF HT HU hr
  have HT := Lib.hid hT; clear hT; have HF := Lib.hid hF; clear hF; have HU := Lib.hid hU; clear hU
  clear hf
  go_wp2_with fail
  refine (Diff_any t u v4 v5 Tb.E3 Tb.E2 _ (by decide) (by decide) Tb.E_wf wfe HT.out HU.out).mono ?_
  rintro e w9 ⟨v9, rfl, hv, hf⟩
  obtain ⟨a9, c9, rfl⟩ := hv.val
  have hF := HF.out.trans hf
  have HF9 := Lib.hid hF
  rw [Tb.E_chs]
  clear hf hv hF
  go_wp2
  go_ret
  exact ⟨rfl, HF9.out⟩
end Go.Proofs.Ytdkkeaegmmepfaa
