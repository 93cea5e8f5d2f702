/- Walks: New, Clone, List, Of of tables; what a table is in memory. -/
import Derived.Test.YtdkkeaegmmepfaaTb8
namespace Go.Proofs.Ytdkkeaegmmepfaa
open Go.RowKit Go.Deep

theorem Try.info33 : (Try.prog.info? 33).map (fun i => (i.zero, i.size, i.bytes)) = some (some (.agg #[.int .i64 0, .int .i64 0, .int .i64 0]), 3, 24) := by kernel_rfl
/-- The cells of routes. -/
def rtI (L : List Tb.Rt) : List Int := L.flatMap fun r => [r.p.len, r.p.bits, r.hop]
theorem rtI_len : ∀ L : List Tb.Rt, (rtI L).length = L.length * 3
  | [] => rfl
  | r :: L => by
    have := rtI_len L
    simp only [rtI, List.flatMap_cons, List.length_append, List.length_cons, List.length_nil] at this ⊢
    omega
theorem rtI_app (A B : List Tb.Rt) : rtI (A ++ B) = rtI A ++ rtI B := by simp [rtI]
theorem rtI_take : ∀ (L : List Tb.Rt) (i : Nat), (rtI L).take (i * 3) = rtI (L.take i)
  | [], i => by simp [rtI]
  | r :: L, 0 => by simp [rtI]
  | r :: L, i + 1 => by
    have := rtI_take L i
    rw [List.take_succ_cons]
    show ([r.p.len, r.p.bits, r.hop] ++ rtI L).take ((i + 1) * 3) = [r.p.len, r.p.bits, r.hop] ++ rtI (L.take i)
    rw [← this, List.take_append, show (i + 1) * 3 - [r.p.len, r.p.bits, r.hop].length = i * 3 from by simp only [List.length_cons, List.length_nil]; omega]
    congr 1
    rw [List.take_of_length_le (by simp only [List.length_cons, List.length_nil]; omega)]
theorem rtI_drop : ∀ (L : List Tb.Rt) (i : Nat), (rtI L).drop (i * 3) = rtI (L.drop i)
  | [], i => by simp [rtI]
  | r :: L, 0 => by simp [rtI]
  | r :: L, i + 1 => by
    have := rtI_drop L i
    rw [List.drop_succ_cons, ← this]
    show ([r.p.len, r.p.bits, r.hop] ++ rtI L).drop ((i + 1) * 3) = _
    rw [List.drop_append, show (i + 1) * 3 - [r.p.len, r.p.bits, r.hop].length = i * 3 from by simp only [List.length_cons, List.length_nil]; omega, List.drop_eq_nil_of_le (by simp only [List.length_cons, List.length_nil]; omega), List.nil_append]
theorem rtI_at : ∀ (L : List Tb.Rt) (k : Nat), k < L.length → (rtI L).getD (k * 3) 0 = (Tb.nth L k).p.len ∧ (rtI L).getD (k * 3 + 1) 0 = (Tb.nth L k).p.bits ∧ (rtI L).getD (k * 3 + 2) 0 = (Tb.nth L k).hop
  | [], k, h => by simp at h
  | r :: L, 0, _ => ⟨rfl, rfl, rfl⟩
  | r :: L, k + 1, h => by
    have := rtI_at L k (by simpa using h)
    rw [show (k + 1) * 3 = k * 3 + 3 from by omega]
    exact this
/-- Routes that the call made, in a block of their own. -/
def SlR (w : World) (base : Nat) (v : Value) (L : List Tb.Rt) : Prop := w.ownsRow base 33 3 v L.length ((rtI L).map (Value.int .i64))
theorem Rs.of_rd {w : World} {a : Option Addr} {L : List Tb.Rt} {X : Nat → Int} (h : Rd w a (L.length * 3) X) (hX : ∀ k, k < L.length → X (k * 3) = (Tb.nth L k).p.len ∧ X (k * 3 + 1) = (Tb.nth L k).p.bits ∧ X (k * 3 + 2) = (Tb.nth L k).hop) : Rs w a L := by
  intro k hk
  obtain ⟨b0, o0, h1, c0⟩ := h (k * 3) (by omega)
  obtain ⟨b1, o1, h2, c1⟩ := h (k * 3 + 1) (by omega)
  obtain ⟨b2, o2, h3, c2⟩ := h (k * 3 + 2) (by omega)
  rw [h1] at h2 h3
  cases h2; cases h3
  obtain ⟨e0, e1, e2⟩ := hX k hk
  rw [e0] at c0
  rw [e1] at c1
  rw [e2] at c2
  exact ⟨b0, o0, h1, c0, c1, c2⟩
theorem SlR.shape {w : World} {base : Nat} {v : Value} {L : List Tb.Rt} (h : SlR w base v L) :
    ∃ a cap, v = .slice a L.length cap ∧ Rs w a L ∧ (∀ p, a = some p → base ≤ p.block ∧ v.ownBlock = some p.block) ∧ L.length ≤ cap := by
  obtain ⟨a, cap, rfl, hr, hb, _, hn, _, hz⟩ := ownsRow_rd h
  refine ⟨a, cap, rfl, Rs.of_rd hr (fun k hk => rtI_at L k hk), fun p hp => ⟨hb p hp, ?_⟩, hn⟩
  subst hp
  rw [hz p rfl]
  rfl
theorem SlR.nil (w : World) (base : Nat) : SlR w base (.slice none 0 0) [] := World.ownsRow_nil _ _ _ _
/-- A table in memory. -/
structure TAt (w : World) (t : Nat) (v : Value) (L : List Tb.Rt) : Prop where
  row : w.rowIs t 73 1 (fun _ => v)
  sl : SlR w 0 v L
  ne : v.ownBlock ≠ some t
theorem TAt.c0 {w : World} {t : Nat} {v : Value} {L : List Tb.Rt} (h : TAt w t v L) : w.cell? ⟨t, 0, none⟩ = some v := World.rowIs.cell h.row (i := 0) (by omega)
theorem TAt.keep {S : Nat → Prop} {w w' : World} {t : Nat} {v : Value} {L : List Tb.Rt} (h : TAt w t v L) (hf : Fr S w w') (h1 : ¬ S t) (h2 : ∀ g, v.ownBlock = some g → ¬ S g) : TAt w' t v L :=
  ⟨hf.row h.row h1, own_keep h.sl hf h2, h.ne⟩
theorem TAt.keep0 {w w' : World} {t : Nat} {v : Value} {L : List Tb.Rt} (h : TAt w t v L) (hf : Fr NoB w w') : TAt w' t v L := h.keep hf (fun h => h) (fun _ _ h => h)

def NewTbPost (w : World) (e : Ending) (w' : World) : Prop := e = .returned (.pointer (some ⟨w.heap.size, 0, none⟩)) ∧ TAt w' w.heap.size (.slice none 0 0) [] ∧ Fr NoB w w'
set_option maxHeartbeats 400000 in
theorem NewT (w : World) : Calls Try.prog 31 #[] w (NewTbPost w) := by
  go_enter Try.func31, Try.ntmps31
  go_wp2
  go_ret
  exact ⟨rfl, ⟨rowIs_new w 1 (.slice none 0 0) 73, SlR.nil _ _, by intro h; cases h⟩, (Fr.refl _ _).alloc _⟩

def ClonePost (L : List Tb.Rt) (w : World) (e : Ending) (w' : World) : Prop := ∃ v, e = .returned v ∧ SlR w' w.heap.size v L ∧ Fr NoB w w'
theorem ints_one (l : List Int) : ∀ u ∈ l.map (Value.int .i64), u.oneCell' = true := by
  intro u hu
  obtain ⟨y, _, rfl⟩ := List.mem_map.1 hu
  rfl
theorem Rs.news {w : World} {ad : Addr} {L : List Tb.Rt} (h : Rs w (some ad) L) (hs : ad.spot = none) : ∀ (j : Nat) (u : Value), ((rtI L).map (Value.int .i64))[j]? = some u → w.cell? (ad.add j) = some u := by
  intro j u hj
  have hjl : j < L.length * 3 := by
    have := (List.getElem?_eq_some_iff.1 hj).1
    rwa [List.length_map, rtI_len] at this
  have hk : j / 3 < L.length := by omega
  obtain ⟨b, o, e, c0, c1, c2⟩ := h (j / 3) hk
  cases e
  obtain ⟨e0, e1, e2⟩ := rtI_at L (j / 3) hk
  have hu : u = .int .i64 ((rtI L).getD j 0) := by
    rw [List.getElem?_map] at hj
    have : (rtI L)[j]? = some ((rtI L)[j]'(by rw [rtI_len]; exact hjl)) := List.getElem?_eq_getElem _
    rw [this] at hj
    simp only [Option.map_some, Option.some.injEq] at hj
    rw [← hj, List.getD_eq_getElem?_getD, this]
    rfl
  have ha : (⟨b, o, none⟩ : Addr).add j = ⟨b, o + j, none⟩ := by
    unfold Addr.add
    split
    · rename_i h; rw [h]; rfl
    · rfl
  rw [ha, hu]
  have h3 : j % 3 = 0 ∨ j % 3 = 1 ∨ j % 3 = 2 := by omega
  rcases h3 with h3 | h3 | h3
  · have e : j = j / 3 * 3 := by omega
    rw [e, e0]
    exact c0
  · have e : j = j / 3 * 3 + 1 := by omega
    rw [e, e1, ← Nat.add_assoc]
    exact c1
  · have e : j = j / 3 * 3 + 2 := by omega
    rw [e, e2, ← Nat.add_assoc]
    exact c2
set_option maxRecDepth 100000 in
set_option maxHeartbeats 4000000 in
theorem CloneR_any (a : Option Addr) (c : Nat) (L : List Tb.Rt) (w : World) (hl : L.length ≤ 1000) (ha : Rs w a L) :
    Calls Try.prog 34 #[.slice a L.length c] w (ClonePost L w) := by
  cases a with
  | none =>
    have h0 : L = [] := by
      by_cases h : L.length = 0
      · exact List.eq_nil_of_length_eq_zero h
      · obtain ⟨b, o, e, _⟩ := ha 0 (by omega)
        cases e
    subst h0
    clear ha hl
    have hq := fun w => Lib.run_eql_slice_nil (P := Try.prog) w 22 33 none 0 c 0 0 Try.underlying22
    dsimp only [Option.isNone] at hq
    go_enter Try.func34, Try.ntmps34
    go_wp2
    go_ret
    exact ⟨_, rfl, SlR.nil _ _, Fr.refl _ _⟩
  | some ad =>
    obtain ⟨b, o, sp⟩ := ad
    have hF := (Fr.refl NoB w).alloc (.cells #[] 33)
    have hN : ∀ (j : Nat) (u : Value), ((rtI L).map (Value.int .i64))[j]? = some u → (w.alloc (.cells #[] 33)).cell? ((⟨b, o, sp⟩ : Addr).add j) = some u := by
      by_cases h : L.length = 0
      · rw [List.eq_nil_of_length_eq_zero h]
        intro j u hj
        cases hj
      · obtain ⟨_, _, e, _⟩ := ha 0 (by omega)
        cases e
        exact Rs.news (ha.keep0 hF) rfl
    have HN := Lib.hid hN
    clear hN
    have hown : (w.alloc (.cells #[] 33)).ownsRow w.heap.size 33 3 (.slice (some ⟨w.heap.size, 0, none⟩) 0 0) 0 [] := row_own (f := fun _ => .int .i64 0) (cap := 0) (World.rowIs_alloc w #[] 33 _ (by intro i hi; simp at hi)) (Nat.le_refl _) (Nat.le_refl _) (by unfold maxLen; omega) rfl (by intro k hk; omega)
    have hll : ((rtI L).map (Value.int .i64)).length = L.length * 3 := by rw [List.length_map, rtI_len]
    have HO := Lib.hid hown
    have HL := Lib.hid hll
    clear ha hF hown hll
    have hq := fun w => Lib.run_eql_slice_nil (P := Try.prog) w 22 33 (some ⟨b, o, sp⟩) L.length c 0 0 Try.underlying22
    dsimp only [Option.isNone] at hq
    go_enter Try.func34, Try.ntmps34
    go_wp2_with (at_builtin; refine app_own rfl _ _ 22 33 3 24 _ rfl Try.underlying22 Try.info33 rfl (by omega) w.heap.size (.slice (some ⟨w.heap.size, 0, none⟩) 0 0) 0 [] rfl HO.out ⟨b, o, sp⟩ L.length c ((rtI L).map (Value.int .i64)) rfl HL.out HN.out (ints_one _) (by omega) (by omega) (by simp) ?_; intro v' w1 hv hf)
    go_ret
    refine ⟨v', rfl, ?_, ?_⟩
    · have hv := hv
      rw [Nat.zero_add, List.nil_append] at hv
      exact hv
    · exact ((Fr.refl NoB w).alloc _).trans' hf (fun i hi h => by cases h; exact absurd hi (Nat.lt_irrefl _))

theorem TAt.shape {w : World} {t : Nat} {v : Value} {L : List Tb.Rt} (h : TAt w t v L) :
    ∃ a cap, v = .slice a L.length cap ∧ Rs w a L ∧ (∀ p, a = some p → p.spot = none) ∧ w.cell? ⟨t, 0, none⟩ = some (.slice a L.length cap) := by
  obtain ⟨a, cap, rfl, hr, hb, _, hn, _, hz⟩ := ownsRow_rd h.sl
  exact ⟨a, cap, rfl, Rs.of_rd hr (fun k hk => rtI_at L k hk), fun p hp => by rw [hz p hp], h.c0⟩
set_option maxHeartbeats 4000000 in
theorem ListT_any (t : Nat) (v : Value) (L : List Tb.Rt) (w : World) (hl : L.length ≤ 1000) (h : TAt w t v L) :
    Calls Try.prog 11 #[.pointer (some ⟨t, 0, none⟩)] w (ClonePost L w) := by
  obtain ⟨a, c, rfl, hr, _, hc⟩ := h.shape
  clear h
  have HR := Lib.hid hr; clear hr
  go_enter Try.func11, Try.ntmps11
  go_wp2_with fail
  refine (CloneR_any a c L _ hl HR.out).mono ?_
  rintro e w1 ⟨v', rfl, hv, hf⟩
  have HV := Lib.hid hv; clear hv; have HF := Lib.hid hf; clear hf
  go_wp2
  go_ret
  exact ⟨v', rfl, HV.out, HF.out⟩

def OfTbPost (L : List Tb.Rt) (w : World) (e : Ending) (w' : World) : Prop :=
  (Tb.chk L ≠ 0 ∧ e = .returned (.tuple #[.pointer none, .int .i64 (Tb.chk L)]) ∧ Fr NoB w w') ∨
  (Tb.chk L = 0 ∧ ∃ t v, e = .returned (.tuple #[.pointer (some ⟨t, 0, none⟩), .int .i64 0]) ∧ TAt w' t v L ∧ w.heap.size ≤ t ∧ Fr NoB w w')
set_option maxHeartbeats 4000000 in
theorem OfTb_any (a : Option Addr) (c : Nat) (L : List Tb.Rt) (w : World) (hl : L.length ≤ 1000) (ha : Rs w a L) :
    Calls Try.prog 12 #[.slice a L.length c] w (OfTbPost L w) := by
  have HA := Lib.hid ha; clear ha
  go_enter Try.func12, Try.ntmps12
  go_wp2_with fail
  refine (Check_all a c L _ HA.out).mono ?_
  rintro e w1 ⟨rfl, hf⟩
  have hr := HA.out.keep0 hf
  have HR := Lib.hid hr; clear hr; have HF := Lib.hid hf; clear hf
  by_cases h0 : Tb.chk L = 0
  · have H0 := Lib.hid h0
    rw [h0]
    clear h0
    go_wp2_with fail
    refine (CloneR_any a c L _ hl HR.out).mono ?_
    rintro e w2 ⟨v', rfl, hv, hf⟩
    obtain ⟨a', c', rfl, _⟩ := hv.shape
    have hs0 : SlR w2 0 (.slice a' L.length c') L := by
      refine ⟨hv.1, ?_⟩
      rcases hv.2 with h | ⟨g, cap, cur, h1, h2, h3⟩
      · exact .inl h
      · exact .inr ⟨g, cap, cur, h1, Nat.zero_le _, h3⟩
    have hne : (Value.slice a' L.length c').ownBlock ≠ some w2.heap.size := fun e => by
      have := (World.ownsRow.lt hv _ e).2
      omega
    have hF := HF.out.trans hf
    have HS0 := Lib.hid hs0; clear hs0; have HNE := Lib.hid hne; clear hne; have HF1 := Lib.hid hF; clear hF
    clear hv hf
    go_wp2
    refine bodyPost_ret (v := .tuple #[.pointer (some ⟨w2.heap.size, 0, none⟩), .int .i64 0]) ?_ rfl (show OfTbPost L w (.returned (.tuple #[.pointer (some ⟨w2.heap.size, 0, none⟩), .int .i64 0])) _ from Or.inr ⟨H0.out, w2.heap.size, _, rfl, ⟨?_, World.ownsRow.alloc HS0.out _, HNE.out⟩, HF1.out.size, HF1.out.alloc _⟩)
    · simp [results, Try.results12, go_sem]
    · exact rowIs_new w2 1 _ 73
  · have hb : (Tb.chk L != 0) = true := by simpa using h0
    have H0 := Lib.hid h0
    clear h0
    go_wp2
    refine bodyPost_ret (v := .tuple #[.pointer none, .int .i64 (Tb.chk L)]) ?_ rfl (show OfTbPost L w (.returned (.tuple #[.pointer none, .int .i64 (Tb.chk L)])) w1 from Or.inl ⟨H0.out, rfl, HF.out⟩)
    simp [results, Try.results12, go_sem]

end Go.Proofs.Ytdkkeaegmmepfaa
