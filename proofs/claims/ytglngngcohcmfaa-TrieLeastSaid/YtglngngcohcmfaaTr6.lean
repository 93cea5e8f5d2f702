/- Walks: handpostlaw.trieBegun. -/
import Derived.Test.YtglngngcohcmfaaTr5
namespace Go.Proofs.Ytglngngcohcmfaa
open Go.RowKit Go.Deep

def T1 : Tb.Tr := Tb.mkT 8 ⟨0, 0⟩ (Tb.allOf [⟨⟨1, 1⟩, 3⟩])
theorem fit1 (L : List Tb.Rt) : Tb.Fit 8 ⟨0, 0⟩ (Tb.allOf L) := fit_all (Tb.allOf_len L)
theorem ok00 : Tb.ok ⟨0, 0⟩ := by decide
theorem span00 : Tb.span ⟨0, 0⟩ = 256 := by decide
theorem fst00 : Tb.fst ⟨0, 0⟩ = 0 := by decide
theorem has00 {n : Nat} (h : n < 256) : Tb.has ⟨0, 0⟩ (n : Int) := by
  refine (Tb.has_in ok00 _).2 ?_
  rw [fst00, span00]
  omega
theorem lookW_all (L : List Tb.Rt) (x : Int) : lookW (Tb.mkT 8 ⟨0, 0⟩ (Tb.allOf L)) x = if 0 ≤ x ∧ x < 256 then Tb.look L x else -1 := by
  unfold lookW
  rw [Tb.mkT_root]
  by_cases h : 0 ≤ x ∧ x < 256
  · obtain ⟨n, rfl⟩ := Int.eq_ofNat_of_zero_le h.1
    have hn : n < 256 := by omega
    rw [if_pos (has00 hn), if_pos h, Tb.mkT_look 8 _ _ (fit1 L) _ (has00 hn), fst00, Int.sub_zero, Int.toNat_natCast]
    exact allOf_get L hn
  · rw [if_neg h, if_neg (fun k => h (Tb.has_range k))]
theorem t1_leaf : T1.isLeaf = false := by
  cases h : T1.isLeaf with
  | false => rfl
  | true =>
    have := (Tb.mkT_alike 8 _ _ (fit1 [⟨⟨1, 1⟩, 3⟩])).1.1 h 128 (by rw [Tb.allOf_len]; omega)
    rw [allOf_get _ (by omega), allOf_get _ (by omega)] at this
    exact absurd this (by decide)
theorem t1_size : (Tb.leaves T1).length = 2 := by
  unfold T1
  rw [Tb.mkT_leaves 8 _ _ (fit1 _)]
  decide +kernel
theorem t1_128 : lookW T1 128 = 3 := by
  unfold T1
  rw [lookW_all, if_pos (by omega)]
  decide
theorem t1_0 : lookW T1 0 = -1 := by
  unfold T1
  rw [lookW_all, if_pos (by omega)]
  decide
set_option maxRecDepth 100000 in
set_option maxHeartbeats 8000000 in
theorem trieBegun_true (w : World) : Calls Try.prog 28 #[] w (TrueFr w) := by
  go_enter Try.func28, Try.ntmps28
  go_wp2_with fail
  refine (NewT _).mono ?_
  rintro e w1 ⟨rfl, hT, hf⟩
  have h2 : Ow w w1 w.heap.size (.slice none 0 0) [] := ⟨hT, Nat.le_refl _, fun g h => (by cases h), hf⟩
  have HO := Lib.hid h2
  clear hT hf h2
  generalize w.heap.size = t at *
  go_wp2_with fail
  refine (Set_any t _ [] 1 1 3 _ (by simp) Tb.Wf.nil HO.out.at_).mono ?_
  unfold SetPost
  rw [tl_c1, tl_1]
  rintro e w2 ⟨rfl, v2, hT, hf, ho⟩
  have HO2 := Lib.hid (HO.out.set hT hf ho)
  clear hT hf ho HO
  have hof := fun W (hW : Fr NoB w2 W) => TOf_any t v2 [⟨⟨1, 1⟩, 3⟩] W (by simp) wf_one (HO2.out.at_.keep0 hW)
  have e1 : Tb.mkT 8 ⟨0, 0⟩ (Tb.allOf [⟨⟨1, 1⟩, 3⟩]) = T1 := rfl
  rw [e1] at hof
  have HOF := Lib.hid hof
  clear hof e1
  have HS : Hid ((Tb.leaves T1).length ≤ 1000) := by show (Tb.leaves T1).length ≤ 1000; rw [t1_size]; omega
  go_wp2_with fail
  refine (HOF.out _ (Fr.refl _ _)).mono ?_
  rintro e w3 ⟨b, rfl, ht, hf⟩
  have HT := Lib.hid ht
  have HF3 := Lib.hid hf
  clear ht hf
  go_wp2_with fail
  refine (Leaf_any T1 b _ HT.out).mono ?_
  rw [t1_leaf]
  rintro e w4 ⟨rfl, rfl⟩
  go_wp2_with fail
  refine (size_any T1 b _ HT.out HS.out).mono ?_
  rw [t1_size]
  rintro e w5 ⟨rfl, hf⟩
  have HT5 := Lib.hid (HT.out.keep0 hf)
  have HF5 := Lib.hid (HF3.out.trans hf)
  clear hf
  go_wp2_with fail
  refine (TLook_any T1 b 128 _ HT5.out).mono ?_
  rw [t1_128]
  rintro e w6 ⟨rfl, hf⟩
  have HT6 := Lib.hid (HT5.out.keep0 hf)
  have HF6 := Lib.hid (HF5.out.trans hf)
  clear hf
  go_wp2_with fail
  refine (TLook_any T1 b 0 _ HT6.out).mono ?_
  rw [t1_0]
  rintro e w7 ⟨rfl, hf⟩
  have HF7 := Lib.hid (HF6.out.trans hf)
  clear hf
  go_wp2_with fail
  refine (TSame_any t t v2 v2 _ _ _ (by simp) (by simp) wf_one wf_one (HO2.out.at_.keep0 HF7.out) (HO2.out.at_.keep0 HF7.out)).mono ?_
  rintro e w8 ⟨r, rfl, hr, hf⟩
  obtain rfl := hr.2 (fun _ _ => rfl)
  have HFE := Lib.hid (HO2.out.f.trans (HF7.out.trans hf))
  clear hf hr
  go_wp2
  go_ret
  exact ⟨rfl, HFE.out⟩
end Go.Proofs.Ytglngngcohcmfaa
