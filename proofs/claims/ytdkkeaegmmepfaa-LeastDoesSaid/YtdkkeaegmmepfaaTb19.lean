/- Walks: (*Table).Set, where it takes a route away. -/
import Derived.Test.YtdkkeaegmmepfaaTb18
namespace Go.Proofs.Ytdkkeaegmmepfaa
open Go.RowKit Go.Deep

set_option maxRecDepth 100000 in
set_option maxHeartbeats 4000000 in
theorem Set_del (t : Nat) (v : Value) (L : List Tb.Rt) (l b hop : Int) (w : World) (hl : L.length ≤ 40) (hw : Tb.Wf L) (h : TAt w t v L) (hg : Tb.get L ⟨l, b⟩ ≠ -2) (h2 : hop = -2) :
    Calls Try.prog 13 #[.pointer (some ⟨t, 0, none⟩), .agg #[.int .i64 l, .int .i64 b], .int .i64 hop] w (SetOk t v (Tb.setOk L ⟨l, b⟩ hop) w) := by
  subst h2
  obtain ⟨hok, hlo, hn, e1, e2⟩ := Tb.found_nth hw hg
  have hne : 0 < L.length := by omega
  obtain ⟨g, c, rfl, hnc, hcm, f, hrow, hx⟩ := h.own hne
  have ha : Rs w (some ⟨g, 0, none⟩) L := by
    obtain ⟨a', c', e, hr, _⟩ := h.shape
    cases e
    exact hr
  have hcell := h.c0
  have hlt := World.rowIs.lt h.row
  have hgt : g ≠ t := fun e => h.ne (by rw [e]; rfl)
  have HA := Lib.hid ha; clear ha; have HW := Lib.hid hw; clear hw; have HLL := Lib.hid hl; clear hl; have HC := Lib.hid hcell; clear hcell; have H := Lib.hid h; clear h; have HRow := Lib.hid hrow; clear hrow; have HX := Lib.hid hx; clear hx
  have hdg := decide_eq_true hg
  have hd := decide_eq_true hok
  have hL : Tb.setOk L ⟨l, b⟩ (-2) = L.take (Tb.lo L ⟨l, b⟩).length ++ L.drop ((Tb.lo L ⟨l, b⟩).length + 1) := by
    unfold Tb.setOk Tb.mid
    rw [if_pos rfl, List.append_nil, ← e1, ← e2]
  rw [hL]
  clear e1 e2 hL
  generalize hi : (Tb.lo L ⟨l, b⟩).length = i at *
  have HI := Lib.hid hi; clear hi
  have hli : (i : Int) < (L.length : Int) := by omega
  have hl40 : (L.length : Int) ≤ 40 := by have := HLL.out; omega
  have HD := Lib.hid hd; clear hd; have HOK := Lib.hid hok; clear hok; have HDG := Lib.hid hdg; clear hdg; have HN := Lib.hid hn; clear hn
  clear hg
  go_enter Try.func13, Try.ntmps13
  go_upto_region 1 with fail
  refine wp_name fun w1 hw1 => ?_
  have c0 : w1.cell? ⟨w.heap.size, 0, none⟩ = some (.int .i64 l) := by rw [hw1]; simp
  have c1 : w1.cell? ⟨w.heap.size, 1, none⟩ = some (.int .i64 b) := by rw [hw1]; simp
  have hF : Fr NoB w w1 := by rw [hw1]; (repeat (first | exact Fr.refl _ _ | refine Fr.alloc ?_ _ | refine Fr.setNew ?_ (by omega) _ _ | refine Fr.drewN ?_ _ | refine Fr.drew ?_))
  have hc := cell_fr' hF HC.out (fun h => h)
  clear hw1
  have HF0 := Lib.hid hF; clear hF
  go_wp2_with fail
  refine (at_any t (some ⟨g, 0, none⟩) c L l b _ (by have := HLL.out; omega) HW.out (HA.out.keep0 HF0.out) hc).mono ?_
  unfold AtPost
  rw [HDG.out, HI.out]
  rintro e w2 ⟨rfl, hf⟩
  have c0 := cell_fr' hf c0 (fun h => h)
  have c1 := cell_fr' hf c1 (fun h => h)
  have hc := cell_fr' hf hc (fun h => h)
  have HF1 := Lib.hid (HF0.out.trans hf)
  clear hf HF0
  go_wp2_with fail
  refine (Check_any l b _).mono ?_
  rw [HD.out]
  rintro e w3 ⟨rfl, hf⟩
  have c0 := cell_fr' hf c0 (fun h => h)
  have c1 := cell_fr' hf c1 (fun h => h)
  have hc := cell_fr' hf hc (fun h => h)
  have HF2 := Lib.hid (HF1.out.trans hf)
  clear hf HF1
  go_wp2_with fail
  have hT := H.out.keep0 HF2.out
  have HT := Lib.hid hT; clear hT
  refine (DeleteT (.slice (some ⟨g, 0, none⟩) L.length c) L i w3 (by have := HLL.out; omega) hlo HT.out.sl).mono ?_
  rintro e w4 ⟨v', rfl, hv, hf, hob⟩
  obtain ⟨a', c', rfl, _⟩ := hv.shape
  generalize (L.take i ++ L.drop (i + 1)).length = n' at *
  have hc := cell_fr' hf hc (fun e : (Value.slice (some ⟨g, 0, none⟩) L.length c).ownBlock = some t => H.out.ne e)
  have hfz := World.rowIs.frozen (hf.row HT.out.row (fun e => H.out.ne e)) 0
  have hn' : (Value.slice a' n' c').ownBlock ≠ some t := by rw [hob]; exact H.out.ne
  have hts := HT.out.store hv hf hn'
  have HTS := Lib.hid hts; clear hts; have HF3 := Lib.hid hf; clear hf; have HOB := Lib.hid hob; clear hob
  clear hv hn'
  go_wp2
  go_ret
  exact ⟨rfl, _, HTS.out, (((HF2.out.mono (fun _ _ h => h.elim)).trans (HF3.out.mono (fun _ _ h => .inr h))).setCell (p := ⟨t, 0, none⟩) (.inl (.inl rfl)) _), fun g' h' => .inl (by rw [← HOB.out]; exact h')⟩
end Go.Proofs.Ytdkkeaegmmepfaa
