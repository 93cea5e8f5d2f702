/- Walks over the document's own answer: BitsOf, Text. -/
import Derived.Test.YtglngngcohcmfaaDoorPf10
namespace Go.Proofs.YtglngngcohcmfaaDoor
open Go.RowKit Go.Deep

def BoRel (n : Nat) (L : List UInt8) (w : World) (u s i : Value) (wr : World) : Prop :=
  ∃ (v f : Nat) (x : Int) (S : ByteArray), u = .int .i64 v ∧ s = .string S ∧ i = .int .i64 x ∧ x + f = n ∧ S.size + f = n ∧ 0 ≤ x ∧ f ≤ n ∧ v < 256 ∧ Tb.bts v f ++ S.data.toList = L ∧ wr = w
theorem dg_one {v : Nat} (h : v % 2 = 1) : Tb.dg v = 49 := by unfold Tb.dg; rw [if_pos h]
theorem dg_nil {v : Nat} (h : v % 2 = 0) : Tb.dg v = 48 := by unfold Tb.dg; rw [if_neg (by omega)]
set_option maxHeartbeats 2000000 in
theorem BitsOf_any (b n : Nat) (w : World) (hb : b < 256) (hn : n ≤ 8) : Calls Tryd.prog 27 #[.int .i64 b, .int .i64 n] w (StrFr (Tb.bts b n) w) := by
  obtain ⟨L, hL⟩ : ∃ L, L = Tb.bts b n := ⟨_, rfl⟩
  rw [← hL]
  have HL := Lib.hid hL
  clear hL
  go_enter Tryd.func27, Tryd.ntmps27
  go_wp2
  go_loopw [0, 5, 6] (fun u s i wr => BoRel n L w u s i wr) (fun _ _ i _ => n - (intOf i).toNat)
  case atStart => exact ⟨b, n, 0, ⟨#[]⟩, rfl, rfl, rfl, by omega, Nat.zero_add _, Int.le_refl _, Nat.le_refl _, hb, by rw [HL.out]; exact List.append_nil _, rfl⟩
  case round =>
    obtain ⟨v, f, x, S, rfl, rfl, rfl, hx, hsz, hx0, hf, hv, hS, rfl⟩ := hrel
    cases f with
    | zero =>
      have hd : decide (x < (n : Int)) = false := by simp; omega
      have hfin : StrFr L wr (.returned (.string S)) wr := ⟨ret_str hS, Fr.refl _ _⟩
      have HFIN := Lib.hid hfin; clear hfin; have HS := Lib.hid hS; clear hS
      go_wp2
      go_ret
      exact HFIN.out
    | succ f =>
      have hd : decide (x < (n : Int)) = true := by simp; omega
      have h2 : v / 2 < 256 := by omega
      have hwr := IntWalk.i64_in (x + 1) (by omega)
      have hS9 : S.size ≤ 8 := by omega
      have hs1 : ∀ c : UInt8, ((⟨#[c]⟩ : ByteArray) ++ S).size = 1 + S.size := fun c => by rw [ba_size, ba_app, List.length_append, ← ba_size S]; rfl
      rcases Nat.mod_two_eq_zero_or_one v with hm | hm
      · have hnx : Tb.bts (v / 2) f ++ ((⟨#[48]⟩ : ByteArray) ++ S).data.toList = L := by
          rw [ba_app, ← hS, ← dg_nil hm]
          show _ = Tb.bts (v / 2) f ++ [Tb.dg v] ++ _
          rw [List.append_assoc, dg_nil hm]
        have HS := Lib.hid hS; clear hS; have HN := Lib.hid hnx; clear hnx; have HX := Lib.hid hx; clear hx; have HS1 := Lib.hid hs1; clear hs1; have HSZ := Lib.hid hsz; clear hsz
        go_wp2
        go_roundw
        case rel => exact ⟨v / 2, f, x + 1, _, by go_num, rfl, by go_num, by have := HX.out; omega, by have := HSZ.out; rw [HS1.out]; omega, by omega, by omega, h2, HN.out, rfl⟩
        case measure => have := HX.out; simp [intOf]; omega
      · have hnx : Tb.bts (v / 2) f ++ ((⟨#[49]⟩ : ByteArray) ++ S).data.toList = L := by
          rw [ba_app, ← hS, ← dg_one hm]
          show _ = Tb.bts (v / 2) f ++ [Tb.dg v] ++ _
          rw [List.append_assoc, dg_one hm]
        have HS := Lib.hid hS; clear hS; have HN := Lib.hid hnx; clear hnx; have HX := Lib.hid hx; clear hx; have HS1 := Lib.hid hs1; clear hs1; have HSZ := Lib.hid hsz; clear hsz
        go_wp2
        go_roundw
        case rel => exact ⟨v / 2, f, x + 1, _, by go_num, rfl, by go_num, by have := HX.out; omega, by have := HSZ.out; rw [HS1.out]; omega, by omega, by omega, h2, HN.out, rfl⟩
        case measure => have := HX.out; simp [intOf]; omega
set_option maxRecDepth 100000 in
set_option maxHeartbeats 4000000 in
theorem RText_no (l b : Int) (w : World) (h : ¬ Tb.ok ⟨l, b⟩) : Calls Tryd.prog 26 #[.agg #[.int .i64 l, .int .i64 b]] w (StrFr [] w) := by
  have hd := decide_eq_false h
  have HD := Lib.hid hd; clear hd; have H := Lib.hid h; clear h
  go_enter Tryd.func26, Tryd.ntmps26
  go_wp2_with fail
  refine (IsPrefix_any l b _).mono ?_
  rw [HD.out]
  rintro e w1 ⟨rfl, hf⟩
  have hF := ((Fr.refl NoB w).alloc _).trans hf
  have HF := Lib.hid hF; clear hF
  clear hf
  go_wp2
  go_ret
  exact ⟨rfl, HF.out⟩
set_option maxRecDepth 100000 in
set_option maxHeartbeats 4000000 in
theorem RText_ok (l n : Nat) (w : World) (h : Tb.ok ⟨l, n⟩) (h2 : l ≤ 8) (hn : n < 256) : Calls Tryd.prog 26 #[.agg #[.int .i64 l, .int .i64 n]] w (StrFr (Tb.txt ⟨l, n⟩) w) := by
  have hd := decide_eq_true h
  rw [Tb.txt_ok h]
  show Calls Tryd.prog 26 #[.agg #[.int .i64 l, .int .i64 n]] w (StrFr (Tb.bts n l ++ Tb.tl l) w)
  have hbits := fun W => BitsOf_any n l W hn h2
  obtain ⟨S, hS⟩ : ∃ S : ByteArray, S = ⟨(Tb.bts n l).toArray⟩ := ⟨_, rfl⟩
  have hSd : S.data.toList = Tb.bts n l := by rw [hS]
  have hS9 : S.size ≤ 8 := by rw [ba_size, hSd, Tb.bts_len]; exact h2
  have hbits : ∀ W, Calls Tryd.prog 27 #[.int .i64 n, .int .i64 l] W (fun e w' => e = .returned (.string S) ∧ Fr NoB W w') := fun W => by rw [hS]; exact hbits W
  rw [← hSd]
  have HD := Lib.hid hd; clear hd; have H := Lib.hid h; clear h; have HB := Lib.hid hbits; clear hbits; have HSD := Lib.hid hSd; clear hSd; have HS := Lib.hid hS; clear hS; have HN := Lib.hid hn; clear hn
  by_cases h8 : l < 8
  · have h8b : decide ((l : Int) < 8) = true := by simp; omega
    rw [Tb.tl_lt h8]
    go_enter Tryd.func26, Tryd.ntmps26
    go_wp2_with fail
    refine (IsPrefix_any l n _).mono ?_
    rw [HD.out]
    rintro e w1 ⟨rfl, hf⟩
    have c0 := cell_fr' hf (box0 w (.int .i64 l) (.int .i64 n) 23) (fun h => h)
    have c1 := cell_fr' hf (box1 w (.int .i64 l) (.int .i64 n) 23) (fun h => h)
    have hF := ((Fr.refl NoB w).alloc _).trans hf
    have HF := Lib.hid hF; clear hF
    clear hf
    go_wp2_with fail
    refine (HB.out _).mono ?_
    rintro e w2 ⟨rfl, hf⟩
    have c0 := cell_fr' hf c0 (fun h => h)
    have c1 := cell_fr' hf c1 (fun h => h)
    have hfin : StrFr (S.data.toList ++ [42]) w (.returned (.string (S ++ (⟨#[42]⟩ : ByteArray)))) w2 := ⟨ret_str (by rw [ba_app]), HF.out.trans hf⟩
    have HFIN := Lib.hid hfin; clear hfin
    clear hf HF
    go_wp2
    go_ret
    exact HFIN.out
  · have h8b : decide ((l : Int) < 8) = false := by simp; omega
    rw [Tb.tl_ge h8]
    go_enter Tryd.func26, Tryd.ntmps26
    go_wp2_with fail
    refine (IsPrefix_any l n _).mono ?_
    rw [HD.out]
    rintro e w1 ⟨rfl, hf⟩
    have c0 := cell_fr' hf (box0 w (.int .i64 l) (.int .i64 n) 23) (fun h => h)
    have c1 := cell_fr' hf (box1 w (.int .i64 l) (.int .i64 n) 23) (fun h => h)
    have hF := ((Fr.refl NoB w).alloc _).trans hf
    have HF := Lib.hid hF; clear hF
    clear hf
    go_wp2_with fail
    refine (HB.out _).mono ?_
    rintro e w2 ⟨rfl, hf⟩
    have c0 := cell_fr' hf c0 (fun h => h)
    have c1 := cell_fr' hf c1 (fun h => h)
    have hfin : StrFr (S.data.toList ++ []) w (.returned (.string S)) w2 := ⟨ret_str (by rw [List.append_nil]), HF.out.trans hf⟩
    have HFIN := Lib.hid hfin; clear hfin
    clear hf HF
    go_wp2
    go_ret
    exact HFIN.out
/-- The document's Text. -/
theorem RText_any (l b : Int) (w : World) : Calls Tryd.prog 26 #[.agg #[.int .i64 l, .int .i64 b]] w (StrFr (Tb.txt ⟨l, b⟩) w) := by
  by_cases h : Tb.ok ⟨l, b⟩
  · have h1 := h.1; have h2 := h.2.1; have h3 := h.2.2.1; have h4 := Tb.bits_lt h
    dsimp only at h1 h2 h3 h4
    obtain ⟨l', rfl⟩ := Int.eq_ofNat_of_zero_le h1
    obtain ⟨b', rfl⟩ := Int.eq_ofNat_of_zero_le h3
    exact RText_ok l' b' w h (by omega) (by omega)
  · rw [Tb.txt_no h]
    exact RText_no l b w h
end Go.Proofs.YtglngngcohcmfaaDoor
