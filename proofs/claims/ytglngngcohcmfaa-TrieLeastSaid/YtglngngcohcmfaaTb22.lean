/- Walks: handpostlaw.tableBegun. -/
import Derived.Test.YtglngngcohcmfaaTb21
namespace Go.Proofs.Ytglngngcohcmfaa
open Go.RowKit Go.Deep

def TL : List Tb.Rt := [⟨⟨1, 1⟩, 3⟩, ⟨⟨2, 2⟩, 4⟩]
theorem tl_c1 : Tb.setC [] ⟨1, 1⟩ 3 = 0 := by decide
theorem tl_1 : Tb.setL [] ⟨1, 1⟩ 3 = [⟨⟨1, 1⟩, 3⟩] := by decide
theorem tl_c2 : Tb.setC [⟨⟨1, 1⟩, 3⟩] ⟨2, 2⟩ 4 = 0 := by decide
theorem tl_2 : Tb.setL [⟨⟨1, 1⟩, 3⟩] ⟨2, 2⟩ 4 = TL := by decide
theorem tl_chk : Tb.chk TL = 0 := by decide
theorem tl_128 : Tb.look TL 128 = 4 := by decide
theorem tl_255 : Tb.look TL 255 = 3 := by decide
theorem tl_0 : Tb.look TL 0 = -1 := by decide
theorem tl_get : Tb.get TL ⟨0, 0⟩ = -2 := by decide
theorem wf_one : Tb.Wf [⟨⟨1, 1⟩, 3⟩] := by rw [← tl_1]; exact (Tb.setL_ok Tb.Wf.nil (by simp) _ _).1
theorem wf_tl : Tb.Wf TL := by rw [← tl_2]; exact (Tb.setL_ok wf_one (by simp) _ _).1
def TrueFr (w : World) (e : Ending) (w' : World) : Prop := e = .returned (.bool true) ∧ Fr NoB w w'
theorem Fr.noB {t : Nat} {v : Value} {w w1 w2 : World} (h : Fr NoB w w1) (hf : Fr (TB t v) w1 w2) (ht : w.heap.size ≤ t) (hv : ∀ g, v.ownBlock = some g → w.heap.size ≤ g) : Fr NoB w w2 :=
  h.trans' hf (fun i hi e => by
    rcases e with e | e
    · omega
    · have := hv i e; omega)
set_option maxRecDepth 100000 in
set_option maxHeartbeats 8000000 in
theorem tableBegun_true (w : World) : Calls Try.prog 10 #[] w (TrueFr w) := by
  go_enter Try.func10, Try.ntmps10
  go_wp2_with fail
  refine (NewT _).mono ?_
  rintro e w1 ⟨rfl, hT, hf⟩
  have HT := Lib.hid hT
  have HF := Lib.hid hf
  clear hT hf
  obtain ⟨t, ht⟩ : ∃ t, t = w.heap.size := ⟨_, rfl⟩
  have htl : w.heap.size ≤ t := by omega
  rw [← ht] at HT
  rw [← ht]
  have HTL := Lib.hid htl
  clear ht htl
  go_wp2_with fail
  refine (Set_any t _ [] 1 1 3 _ (by simp) Tb.Wf.nil HT.out).mono ?_
  unfold SetPost
  rw [tl_c1, tl_1]
  rintro e w2 ⟨rfl, v2, hT, hf, ho⟩
  have hv2 : ∀ g, v2.ownBlock = some g → w.heap.size ≤ g := fun g hg => by
    rcases ho g hg with h | h
    · cases h
    · have := HF.out.size; omega
  have hF := HF.out.noB hf HTL.out (fun g h => by cases h)
  clear HF HT
  have HT := Lib.hid hT
  have HF := Lib.hid hF
  have HV2 := Lib.hid hv2
  clear hT hf ho hF hv2
  go_wp2_with fail
  refine (Set_any t v2 [⟨⟨1, 1⟩, 3⟩] 2 2 4 _ (by simp) wf_one HT.out).mono ?_
  unfold SetPost
  rw [tl_c2, tl_2]
  rintro e w3 ⟨rfl, v3, hT, hf, ho⟩
  have hF := HF.out.noB hf HTL.out HV2.out
  clear HF HT
  have HT := Lib.hid hT
  have HF := Lib.hid hF
  clear hT hf ho hF HV2
  go_wp2_with fail
  refine (List_any t v3 TL _ (by decide) HT.out).mono ?_
  rintro e w4 ⟨v4, rfl, hv, hf⟩
  have hT := HT.out.keep0 hf
  have hF := HF.out.trans hf
  obtain ⟨a4, c4, rfl, hr, hb, _⟩ := hv.shape
  clear HF HT
  have HT := Lib.hid hT
  have HF := Lib.hid hF
  have HR4 := Lib.hid hr
  clear hT hF hr hb hv hf
  go_wp2_with fail
  refine (Of_any a4 c4 TL _ (by decide) HR4.out).mono ?_
  rintro e w5 (⟨h0, _⟩ | ⟨_, u, v5, rfl, hU, _, hf⟩)
  · exact absurd tl_chk h0
  have hT := HT.out.keep0 hf
  have hF := HF.out.trans hf
  clear HF HT HR4
  have HT := Lib.hid hT
  have HF := Lib.hid hF
  have HU := Lib.hid hU
  clear hT hF hU hf
  obtain ⟨ta, tc, rfl, htr, _, htc⟩ := HT.out.shape
  obtain ⟨ua, uc, rfl, hur, _, huc⟩ := HU.out.shape
  have HTR := Lib.hid htr
  have HUR := Lib.hid hur
  have HTC := Lib.hid htc
  have HUC := Lib.hid huc
  have HL : Hid (TL.length ≤ 1000) := by show TL.length ≤ 1000; decide
  clear htr hur htc huc
  go_wp2_with fail
  refine (Look_any t ta tc TL 128 _ HL.out HTR.out HTC.out).mono ?_
  rw [tl_128]
  rintro e w6 ⟨rfl, hf⟩
  have HF6 := Lib.hid hf; clear hf
  go_wp2_with fail
  refine (Look_any u ua uc TL 255 _ HL.out (HUR.out.keep0 HF6.out) (cell_fr' HF6.out HUC.out (fun h => h))).mono ?_
  rw [tl_255]
  rintro e w7 ⟨rfl, hf⟩
  have HF7 := Lib.hid (HF6.out.trans hf); clear hf
  go_wp2_with fail
  refine (Look_any t ta tc TL 0 _ HL.out (HTR.out.keep0 HF7.out) (cell_fr' HF7.out HTC.out (fun h => h))).mono ?_
  rw [tl_0]
  rintro e w8 ⟨rfl, hf⟩
  have HF8 := Lib.hid (HF7.out.trans hf); clear hf
  go_wp2_with fail
  refine (All_any t ta tc TL _ HL.out wf_tl (HTR.out.keep0 HF8.out) (cell_fr' HF8.out HTC.out (fun h => h))).mono ?_
  rintro e w9 ⟨g, rfl, _, _, hf⟩
  have HF9 := Lib.hid (HF8.out.trans hf); clear hf
  go_wp2_with fail
  refine (Get_any t ta tc TL 0 0 _ HL.out wf_tl (HTR.out.keep0 HF9.out) (cell_fr' HF9.out HTC.out (fun h => h))).mono ?_
  rw [tl_get]
  rintro e w10 ⟨rfl, hf⟩
  have HF10 := Lib.hid (HF9.out.trans hf); clear hf
  go_wp2_with fail
  refine (Hop_any 5 _).mono ?_
  rw [decide_eq_true (show Tb.hopOK 5 by decide)]
  rintro e w11 ⟨rfl, rfl⟩
  go_wp2
  go_ret
  exact ⟨rfl, HF.out.trans HF10.out⟩

/-- The routes that a slice's cells are. -/
theorem rs_of_rd {w : World} {a : Option Addr} {n : Nat} {X : Nat → Int} (h : Rd w a (n * 3) X) : ∃ L : List Tb.Rt, L.length = n ∧ Rs w a L := by
  refine ⟨(List.range n).map fun (k : Nat) => ⟨⟨X (k * 3), X (k * 3 + 1)⟩, X (k * 3 + 2)⟩, by simp, ?_⟩
  have hl : ((List.range n).map fun (k : Nat) => (⟨⟨X (k * 3), X (k * 3 + 1)⟩, X (k * 3 + 2)⟩ : Tb.Rt)).length = n := by simp
  refine Rs.of_rd (X := X) (by rw [hl]; exact h) (fun k hk => ?_)
  rw [hl] at hk
  have e : Tb.nth ((List.range n).map fun (k : Nat) => (⟨⟨X (k * 3), X (k * 3 + 1)⟩, X (k * 3 + 2)⟩ : Tb.Rt)) k = ⟨⟨X (k * 3), X (k * 3 + 1)⟩, X (k * 3 + 2)⟩ := by
    rw [Tb.nth_eq (by rw [hl]; exact hk)]
    simp
  rw [e]
  exact ⟨rfl, rfl, rfl⟩

def SamePostF (n m : Nat) (X Y : Nat → Int) (w : World) (e : Ending) (w' : World) : Prop := ∃ r : Bool, e = .returned (.bool r) ∧ (r = true ↔ n = m ∧ ∀ k, k < n → X k = Y k) ∧ Fr NoB w w'
theorem SameInts_fr (a b : Option Addr) (n m c d : Nat) (X Y : Nat → Int) (w : World) (hn : n ≤ 2147483648) (hm : m ≤ 2147483648) (ha : Rd w a n X) (hb : Rd w b m Y) :
    Calls Try.prog 18 #[.slice a n c, .slice b m d] w (SamePostF n m X Y w) := by
  refine (SameInts_any a b n m c d X Y w hn hm ha hb).mono ?_
  rintro e w' ⟨r, h1, h2, j, rfl⟩
  exact ⟨r, h1, h2, (Fr.refl _ _).drewN _⟩
end Go.Proofs.Ytglngngcohcmfaa
