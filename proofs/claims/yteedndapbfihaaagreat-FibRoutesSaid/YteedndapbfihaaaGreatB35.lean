/- Walks: least.Of, least.Count. -/
import Derived.Test.YteedndapbfihaaaGreatB34
namespace Go.Proofs.YteedndapbfihaaaGreat
open Go.RowKit Go.Deep

/-- As OfTbPost; and the table's routes lie in a new block. -/
def OfTbNew (L : List Tb.Rt) (w : World) (e : Ending) (w' : World) : Prop :=
  (Tb.chk L ≠ 0 ∧ e = .returned (.tuple #[.pointer none, .int .i64 (Tb.chk L)]) ∧ Fr NoB w w') ∨
  (Tb.chk L = 0 ∧ ∃ t v, e = .returned (.tuple #[.pointer (some ⟨t, 0, none⟩), .int .i64 0]) ∧ TAt w' t v L ∧ w.heap.size ≤ t ∧ (∀ g, v.ownBlock = some g → w.heap.size ≤ g) ∧ Fr NoB w w')
set_option maxHeartbeats 4000000 in
theorem OfTb_new (a : Option Addr) (c : Nat) (L : List Tb.Rt) (w : World) (hl : L.length ≤ 1000) (ha : Rs w a L) :
    Calls Tryz.prog 26 #[.slice a L.length c] w (OfTbNew L w) := by
  have HA := Lib.hid ha; clear ha
  go_enter Tryz.func26, Tryz.ntmps26
  go_wp2_with fail
  refine (Check_all a c L _ HA.out).mono ?_
  rintro e w1 ⟨rfl, hf⟩
  have hr := HA.out.keep0 hf
  have HR := Lib.hid hr; clear hr; have HF := Lib.hid hf; clear hf
  by_cases h0 : Tb.chk L = 0
  · have H0 := Lib.hid h0
    rw [h0]
    clear h0
    go_wp2_with fail
    refine (CloneR_any a c L _ hl HR.out).mono ?_
    rintro e w2 ⟨v', rfl, hv, hf⟩
    obtain ⟨a', c', rfl, _⟩ := hv.shape
    have hs0 : SlR w2 0 (.slice a' L.length c') L := by
      refine ⟨hv.1, ?_⟩
      rcases hv.2 with h | ⟨g, cap, cur, h1, h2, h3⟩
      · exact .inl h
      · exact .inr ⟨g, cap, cur, h1, Nat.zero_le _, h3⟩
    have hne : (Value.slice a' L.length c').ownBlock ≠ some w2.heap.size := fun e => by
      have := (World.ownsRow.lt hv _ e).2
      omega
    have hnw : ∀ g, (Value.slice a' L.length c').ownBlock = some g → w.heap.size ≤ g := fun g hg => Nat.le_trans HF.out.size (hv.from' g hg)
    have hF := HF.out.trans hf
    have HS0 := Lib.hid hs0; clear hs0; have HNE := Lib.hid hne; clear hne; have HF1 := Lib.hid hF; clear hF; have HNW := Lib.hid hnw; clear hnw
    clear hv hf
    go_wp2
    refine bodyPost_ret (v := .tuple #[.pointer (some ⟨w2.heap.size, 0, none⟩), .int .i64 0]) ?_ rfl (show OfTbNew L w (.returned (.tuple #[.pointer (some ⟨w2.heap.size, 0, none⟩), .int .i64 0])) _ from Or.inr ⟨H0.out, w2.heap.size, _, rfl, ⟨?_, World.ownsRow.alloc HS0.out _, HNE.out⟩, HF1.out.size, HNW.out, HF1.out.alloc _⟩)
    · simp [results, Tryz.results26, go_sem]
    · exact rowIs_new w2 1 _ 94
  · have hb : (Tb.chk L != 0) = true := by simpa using h0
    have H0 := Lib.hid h0
    clear h0
    go_wp2
    refine bodyPost_ret (v := .tuple #[.pointer none, .int .i64 (Tb.chk L)]) ?_ rfl (show OfTbNew L w (.returned (.tuple #[.pointer none, .int .i64 (Tb.chk L)])) w1 from Or.inl ⟨H0.out, rfl, HF.out⟩)
    simp [results, Tryz.results26, go_sem]

def FewPost (L : List Tb.Rt) (w : World) (e : Ending) (w' : World) : Prop :=
  (40 < (Tb.few L).length ∧ e = .returned (.tuple #[.pointer none, .bool false]) ∧ Fr NoB w w') ∨
  ((Tb.few L).length ≤ 40 ∧ ∃ t v, e = .returned (.tuple #[.pointer (some ⟨t, 0, none⟩), .bool true]) ∧ TAt w' t v (Tb.few L) ∧ w.heap.size ≤ t ∧ (∀ g, v.ownBlock = some g → w.heap.size ≤ g) ∧ Fr NoB w w')
theorem new_maker (w : World) (N : Nat) (hN : w.heap.size < N) : MkAt (w.alloc (.cells #[.slice none 0 0] 123)) w.heap.size N (.slice none 0 0) [] :=
  ⟨World.rowIs_alloc w #[.slice none 0 0] _ _ (by intro i hi; simp at hi; subst hi; rfl), SlR.nil _ _, hN⟩
theorem MkAt.grow {w w' : World} {m N M : Nat} (h : MkAt w m N (.slice none 0 0) []) (hf : Fr NoB w w') (hM : m < M) : MkAt w' m M (.slice none 0 0) [] := ⟨hf.row h.row (fun h => h), SlR.nil _ _, hM⟩
theorem slice_noint (x : Int) : Value.slice none 0 0 ≠ .int .i64 x := fun e => by cases e
theorem Fr.noMN {w w1 w2 : World} {m N : Nat} (h : Fr NoB w w1) (hf : Fr (MN m N) w1 w2) (hm : w.heap.size ≤ m) (hN : w.heap.size ≤ N) : Fr NoB w w2 := h.trans' hf (fun i hi k => by
  rcases k with k | k
  · omega
  · omega)
set_option maxRecDepth 100000 in
set_option maxHeartbeats 8000000 in
theorem Few_any (t : Nat) (v : Value) (L : List Tb.Rt) (w : World) (hl : L.length ≤ 1000) (hw : Tb.Wf L) (h : TAt w t v L) : Calls Tryz.prog 46 #[.pointer (some ⟨t, 0, none⟩)] w (FewPost L w) := by
  have hL := Tb.few_layT hw
  have hH := (Tb.mkT_hop 8 ⟨0, 0⟩ (Tb.allOf L) (Tb.fit_allOf L) (Tb.allOf_hops hw)).1
  have h512 := Tb.few_512 hw
  have hck := Tb.chk_of_wf (Tb.few_wf hw)
  obtain ⟨T, hT⟩ : ∃ T, T = Tb.mkT 8 ⟨0, 0⟩ (Tb.allOf L) := ⟨_, rfl⟩
  have hof := fun W (hW : Fr NoB w W) => TOf_any t v L W hl hw (h.keep0 hW)
  rw [← hT] at hL hH hof
  have HL := Lib.hid hL; clear hL; have HH := Lib.hid hH; clear hH; have H512 := Lib.hid h512; clear h512; have HCK := Lib.hid hck; clear hck; have HOF := Lib.hid hof; clear hof
  clear h hw hl hT
  go_enter Tryz.func46, Tryz.ntmps46
  go_upto_region 2 with fail
  refine wp_name fun w1 hw1 => ?_
  have hM1 : MkAt w1 w.heap.size (w.heap.size + 1) (.slice none 0 0) [] := by rw [hw1]; exact new_maker w _ (by omega)
  have hF1 : Fr NoB w w1 := by rw [hw1]; (repeat (first | exact Fr.refl _ _ | refine Fr.alloc ?_ _ | refine Fr.setNew ?_ (by omega) _ _ | refine Fr.drewN ?_ _ | refine Fr.drew ?_))
  clear hw1
  have HM1 := Lib.hid hM1; clear hM1; have HF1 := Lib.hid hF1; clear hF1
  go_wp2_with fail
  refine (HOF.out _ HF1.out).mono ?_
  rintro e w2 ⟨b, rfl, hT2, hf2⟩
  have hlt : w.heap.size < w2.heap.size := Nat.lt_of_lt_of_le (World.block_lt_of_cell? w1 _ HM1.out.c0) hf2.size
  have hM2 := HM1.out.grow hf2 hlt
  have hTM := TrM.of (m := w.heap.size) (N := w2.heap.size) hM2.c0 slice_noint (Nat.le_refl _) hT2
  have hlay := lay_any T b w.heap.size w2.heap.size (.slice none 0 0) [] (-1) w2 hTM HH.out hM2 (Nat.le_refl _) (by rw [HL.out]; have := H512.out; simp only [List.length_nil]; omega)
  rw [HL.out, List.nil_append] at hlay
  have HLAY := Lib.hid hlay
  have HF2 := Lib.hid (HF1.out.trans hf2)
  have HLT := Lib.hid hlt; clear hlt
  clear hT2 hf2 hM2 hTM hlay HM1 HF1
  go_wp2_with fail
  refine HLAY.out.mono ?_
  rintro e w3 ⟨rfl, v3, hM3, hf3⟩
  have c0 := hM3.c0
  obtain ⟨a3, q3, rfl, hrs, _⟩ := hM3.sl.shape
  have HF3 := Lib.hid (HF2.out.noMN hf3 (Nat.le_refl _) (Nat.le_of_lt HLT.out))
  have HRS := Lib.hid hrs; clear hrs
  clear hM3 hf3
  go_wp2_with fail
  refine (OfTb_new a3 q3 (Tb.few L) _ (by have := H512.out; omega) HRS.out).mono ?_
  rintro e w4 h4
  rcases h4 with ⟨h0, rfl, hf4⟩ | ⟨h0, t4, v4, rfl, hT4, ht4, hv4, hf4⟩
  · have h40 : 40 < (Tb.few L).length := Classical.byContradiction fun k => h0 (by rw [HCK.out, if_neg k])
    have hc : Tb.chk (Tb.few L) = 3 := by rw [HCK.out, if_pos h40]
    have HF4 := Lib.hid (HF3.out.trans hf4)
    have H40 := Lib.hid h40; clear h40
    rw [hc]
    clear h0 hf4 hc
    go_wp2
    refine bodyPost_ret (v := .tuple #[.pointer none, .bool false]) ?_ rfl (show FewPost L w (.returned (.tuple #[.pointer none, .bool false])) w4 from Or.inl ⟨H40.out, rfl, HF4.out⟩)
    simp [results, Tryz.results46, go_sem]
  · have h40 : (Tb.few L).length ≤ 40 := Classical.byContradiction fun k => by
      rw [HCK.out, if_pos (by omega)] at h0
      cases h0
    have HT4 := Lib.hid hT4
    have HV4 := Lib.hid (fun g hg => Nat.le_trans HF3.out.size (hv4 g hg))
    have HB4 := Lib.hid (Nat.le_trans HF3.out.size ht4)
    have HF4 := Lib.hid (HF3.out.trans hf4)
    have H40 := Lib.hid h40; clear h40
    clear h0 hf4 hT4 ht4 hv4
    go_wp2
    refine bodyPost_ret (v := .tuple #[.pointer (some ⟨t4, 0, none⟩), .bool true]) ?_ rfl (show FewPost L w (.returned (.tuple #[.pointer (some ⟨t4, 0, none⟩), .bool true])) w4 from Or.inr ⟨H40.out, t4, v4, rfl, HT4.out, HB4.out, HV4.out, HF4.out⟩)
    simp [results, Tryz.results46, go_sem]
end Go.Proofs.YteedndapbfihaaaGreat
