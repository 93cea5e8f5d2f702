/- Walks: strconv.FormatInt at base 2; prefix.Text. -/
import Derived.Test.YtglngngcohcmfaaDoorPf8
import Derived.Test.YtglngngcohcmfaaDoorPfShelf
import Derived.Test.YtglngngcohcmfaaDoorPfMath2
namespace Go.Proofs.YtglngngcohcmfaaDoor
open Go.RowKit Go.Deep

def StrFr (l : List UInt8) (w : World) (e : Ending) (w' : World) : Prop := e = .returned (.string ⟨l.toArray⟩) ∧ Fr NoB w w'
theorem ba_eq {s : ByteArray} {l : List UInt8} (h : s.data.toList = l) : s = ⟨l.toArray⟩ := by
  subst h
  rfl
theorem ret_str {s : ByteArray} {l : List UInt8} (h : s.data.toList = l) : Ending.returned (.string s) = Ending.returned (.string ⟨l.toArray⟩) := by rw [ba_eq h]
theorem ba_app (a b : ByteArray) : (a ++ b).data.toList = a.data.toList ++ b.data.toList := by simp [ByteArray.data_append]
theorem ba_size (s : ByteArray) : s.size = s.data.toList.length := by
  cases s
  simp [ByteArray.size]
theorem u64_nat (n : Nat) (hn : n < 256) : IntKind.u64.wrap (n : Int) = n := by rw [IntKind.wrap_u64]; omega

set_option maxRecDepth 100000 in
theorem formatInt_in (n : Nat) (w : World) (hn : n < 256) (h : Tab w) : Calls Tryd.prog 32 #[.int .i64 n, .int .i64 2] w (StrFr (Tb.bd n) w) := by
  have hc := formatBits_any n w hn h
  have hw := u64_nat n hn
  have HC := Lib.hid hc; clear hc; have HT := Lib.hid h; clear h
  go_enter Tryd.func32, Tryd.ntmps32
  go_wp2_with fail
  refine HC.out.mono ?_
  rintro e w2 ⟨rfl, hf⟩
  have HF := Lib.hid hf
  clear hf
  go_wp2
  go_ret
  exact ⟨rfl, HF.out⟩
theorem formatInt_any (n : Nat) (w : World) (hn : n < 256) (h : Tab w) : Calls Tryd.prog 29 #[.int .i64 n, .int .i64 2] w (StrFr (Tb.bd n) w) := by
  have hc := formatInt_in n w hn h
  have HC := Lib.hid hc; clear hc; have HT := Lib.hid h; clear h
  go_enter Tryd.func29, Tryd.ntmps29
  go_wp2_with fail
  refine HC.out.mono ?_
  rintro e w2 ⟨rfl, hf⟩
  have HF := Lib.hid hf
  clear hf
  go_wp2
  go_ret
  exact ⟨rfl, HF.out⟩

theorem txt_eq {l n : Nat} (h1 : 0 < l) (h2 : l ≤ 8) (hn : n < 2 ^ l) : Tb.txt ⟨l, n⟩ = Lib.repeatL [48] (l - (Tb.bd n).length) ++ Tb.bd n ++ Tb.tl l := by
  have ho := Tb.ok_of h2 hn
  have h256 : n < 256 := Nat.lt_of_lt_of_le hn (Nat.le_trans (Nat.pow_le_pow_right (by decide) h2) (by decide))
  rw [Tb.txt_ok ho, Tb.bd_bts l (by omega) n h256 h1 hn]
  rfl
set_option maxRecDepth 100000 in
set_option maxHeartbeats 4000000 in
theorem Text_no (l b : Int) (w : World) (h : ¬ Tb.ok ⟨l, b⟩) : Calls Tryd.prog 10 #[.agg #[.int .i64 l, .int .i64 b]] w (StrFr [] w) := by
  have hd := decide_eq_false h
  have HD := Lib.hid hd; clear hd; have H := Lib.hid h; clear h
  go_enter Tryd.func10, Tryd.ntmps10
  go_wp2_with fail
  refine (Check_any l b _).mono ?_
  rw [HD.out]
  rintro e w1 ⟨rfl, hf⟩
  have hF := ((Fr.refl NoB w).alloc _).trans hf
  have HF := Lib.hid hF; clear hF
  clear hf
  go_wp2
  go_ret
  exact ⟨rfl, HF.out⟩
set_option maxRecDepth 100000 in
set_option maxHeartbeats 4000000 in
theorem Text_0 (b : Int) (w : World) (h : Tb.ok ⟨0, b⟩) : Calls Tryd.prog 10 #[.agg #[.int .i64 0, .int .i64 b]] w (StrFr [42] w) := by
  obtain ⟨l, hl⟩ : ∃ l : Int, l = 0 := ⟨_, rfl⟩
  rw [← hl] at h ⊢
  have hd := decide_eq_true h
  have h1 : decide (0 < l) = false := by simp [hl]
  have h2 : decide (l < 8) = true := by simp [hl]
  have HD := Lib.hid hd; clear hd; have H := Lib.hid h; clear h; have HL := Lib.hid hl; clear hl
  go_enter Tryd.func10, Tryd.ntmps10
  go_wp2_with fail
  refine (Check_any l b _).mono ?_
  rw [HD.out]
  rintro e w1 ⟨rfl, hf⟩
  have c0 := cell_fr' hf (box0 w (.int .i64 l) (.int .i64 b) 23) (fun h => h)
  have c1 := cell_fr' hf (box1 w (.int .i64 l) (.int .i64 b) 23) (fun h => h)
  have hF := ((Fr.refl NoB w).alloc _).trans hf
  have HF := Lib.hid hF; clear hF
  clear hf
  go_wp2
  go_ret
  exact ⟨rfl, HF.out⟩
set_option maxRecDepth 100000 in
set_option maxHeartbeats 4000000 in
theorem Text_pos (l n : Nat) (w : World) (h : Tb.ok ⟨l, n⟩) (h1 : 0 < l) (h2 : l ≤ 8) (hn : n < 2 ^ l) (hT : Tab w) : Calls Tryd.prog 10 #[.agg #[.int .i64 l, .int .i64 n]] w (StrFr (Tb.txt ⟨l, n⟩) w) := by
  have hd := decide_eq_true h
  have h256 : n < 256 := Nat.lt_of_lt_of_le hn (Nat.le_trans (Nat.pow_le_pow_right (by decide) h2) (by decide))
  have hlen := Tb.bd_len l (by omega) n h256 h1 hn
  rw [txt_eq h1 h2 hn]
  have hfmt := fun W (hW : Fr NoB w W) => formatInt_any n W h256 (hT.keep hW)
  generalize Tb.bd n = B at *
  obtain ⟨S, hS⟩ : ∃ S : ByteArray, S = ⟨B.toArray⟩ := ⟨_, rfl⟩
  have hSd : S.data.toList = B := by rw [hS]
  have hSz : S.size = B.length := by rw [ba_size, hSd]
  have hlen' : S.size ≤ l := by omega
  obtain ⟨q, hq⟩ : ∃ q : Nat, l = q + S.size := ⟨l - S.size, by omega⟩
  have hrep := fun W => Tryd.strings_Repeat ⟨#[48]⟩ q W (by omega) (by show 1 * q ≤ _; omega)
  have hq' : (q : Int) = (l : Int) - (S.size : Int) := by omega
  rw [hq'] at hrep
  obtain ⟨R, hR⟩ : ∃ R : ByteArray, R = ⟨(Lib.repeatL [48] q).toArray⟩ := ⟨_, rfl⟩
  have hRd : R.data.toList = Lib.repeatL [48] q := by rw [hR]
  have hRz : R.size = q := by rw [ba_size, hRd, Lib.repeatL_length]; simp
  have hres : R.data.toList ++ S.data.toList = Lib.repeatL [48] (l - B.length) ++ B := by rw [hRd, hSd, ← hSz, show l - S.size = q from by omega]
  rw [← hres]
  have hR2 : ((⟨#[48]⟩ : ByteArray).data.toList) = [48] := rfl
  rw [hR2, ← hR] at hrep
  have hwr := IntWalk.i64_in ((l : Int) - (S.size : Int)) (by omega)
  have hS9 : S.size ≤ 8 := by omega
  have hR9 : R.size ≤ 8 := by omega
  have h1b : decide ((0 : Int) < (l : Int)) = true := by simp; omega
  have HD := Lib.hid hd; clear hd; have H := Lib.hid h; clear h; have HS := Lib.hid hS; clear hS; have HFMT := Lib.hid hfmt; clear hfmt; have HREP := Lib.hid hrep; clear hrep; have HRES := Lib.hid hres; clear hres; have HR := Lib.hid hR; clear hR; have HT := Lib.hid hT; clear hT; have HQ := Lib.hid hq; clear hq; have HN := Lib.hid hn; clear hn
  clear hSd hlen hSz hq' hRd hRz hR2 hlen'
  by_cases h8 : l < 8
  · have h8b : decide ((l : Int) < 8) = true := by simp; omega
    rw [Tb.tl_lt h8]
    go_enter Tryd.func10, Tryd.ntmps10
    go_wp2_with fail
    refine (Check_any l n _).mono ?_
    rw [HD.out]
    rintro e w1 ⟨rfl, hf⟩
    have c0 := cell_fr' hf (box0 w (.int .i64 l) (.int .i64 n) 23) (fun h => h)
    have c1 := cell_fr' hf (box1 w (.int .i64 l) (.int .i64 n) 23) (fun h => h)
    have hF := ((Fr.refl NoB w).alloc _).trans hf
    have HF := Lib.hid hF; clear hF
    clear hf
    go_wp2_with fail
    refine (HFMT.out _ HF.out).mono ?_
    rintro e w2 ⟨rfl, hf⟩
    rw [← HS.out]
    have c0 := cell_fr' hf c0 (fun h => h)
    have c1 := cell_fr' hf c1 (fun h => h)
    have HF2 := Lib.hid (HF.out.trans hf)
    clear hf HF
    go_wp2_with fail
    refine (HREP.out _).mono ?_
    rintro e w3 ⟨rfl, hb⟩
    have hf : Fr NoB w2 w3 := Fr.of_below hb
    have c0 := cell_fr' hf c0 (fun h => h)
    have c1 := cell_fr' hf c1 (fun h => h)
    have HF3 := Lib.hid (HF2.out.trans hf)
    clear hf hb HF2
    have hfin : StrFr (Lib.repeatL [48] (l - B.length) ++ B ++ [42]) w (.returned (.string (R ++ S ++ (⟨#[42]⟩ : ByteArray)))) w3 := ⟨ret_str (by rw [ba_app, ba_app, HRES.out]), HF3.out⟩
    have HFIN := Lib.hid hfin; clear hfin
    go_wp2
    go_ret
    rw [← HRES.out] at HFIN
    exact HFIN.out
  · have h8b : decide ((l : Int) < 8) = false := by simp; omega
    rw [Tb.tl_ge h8]
    go_enter Tryd.func10, Tryd.ntmps10
    go_wp2_with fail
    refine (Check_any l n _).mono ?_
    rw [HD.out]
    rintro e w1 ⟨rfl, hf⟩
    have c0 := cell_fr' hf (box0 w (.int .i64 l) (.int .i64 n) 23) (fun h => h)
    have c1 := cell_fr' hf (box1 w (.int .i64 l) (.int .i64 n) 23) (fun h => h)
    have hF := ((Fr.refl NoB w).alloc _).trans hf
    have HF := Lib.hid hF; clear hF
    clear hf
    go_wp2_with fail
    refine (HFMT.out _ HF.out).mono ?_
    rintro e w2 ⟨rfl, hf⟩
    rw [← HS.out]
    have c0 := cell_fr' hf c0 (fun h => h)
    have c1 := cell_fr' hf c1 (fun h => h)
    have HF2 := Lib.hid (HF.out.trans hf)
    clear hf HF
    go_wp2_with fail
    refine (HREP.out _).mono ?_
    rintro e w3 ⟨rfl, hb⟩
    have hf : Fr NoB w2 w3 := Fr.of_below hb
    have c0 := cell_fr' hf c0 (fun h => h)
    have c1 := cell_fr' hf c1 (fun h => h)
    have HF3 := Lib.hid (HF2.out.trans hf)
    clear hf hb HF2
    have hfin : StrFr (Lib.repeatL [48] (l - B.length) ++ B ++ []) w (.returned (.string (R ++ S))) w3 := ⟨ret_str (by rw [ba_app, HRES.out, List.append_nil]), HF3.out⟩
    have HFIN := Lib.hid hfin; clear hfin
    go_wp2
    go_ret
    rw [← HRES.out] at HFIN
    exact HFIN.out
/-- prefix.Text. -/
theorem Text_any (l b : Int) (w : World) (hT : Tab w) : Calls Tryd.prog 10 #[.agg #[.int .i64 l, .int .i64 b]] w (StrFr (Tb.txt ⟨l, b⟩) w) := by
  by_cases h : Tb.ok ⟨l, b⟩
  · have h1 := h.1; have h2 := h.2.1; have h3 := h.2.2.1; have h4 := Tb.toNat_lt h
    dsimp only at h1 h2 h3 h4
    by_cases h0 : l = 0
    · subst h0
      have e : b = 0 := by
        have : b < 1 := h.2.2.2
        omega
      subst e
      exact Text_0 0 w h
    · obtain ⟨l', rfl⟩ := Int.eq_ofNat_of_zero_le h1
      obtain ⟨b', rfl⟩ := Int.eq_ofNat_of_zero_le h3
      exact Text_pos l' b' w h (by omega) (by omega) h4 hT
  · rw [Tb.txt_no h]
    exact Text_no l b w h
end Go.Proofs.YtglngngcohcmfaaDoor
