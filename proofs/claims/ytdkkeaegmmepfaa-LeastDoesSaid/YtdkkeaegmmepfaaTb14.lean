/- Walks: SetOf of the document's own answer. -/
import Derived.Test.YtdkkeaegmmepfaaTb13
import Derived.Test.YtdkkeaegmmepfaaTbMath
namespace Go.Proofs.Ytdkkeaegmmepfaa
open Go.RowKit Go.Deep

def SoNo (a : Option Addr) (c : Nat) (L : List Tb.Rt) (code : Int) (w : World) (e : Ending) (w' : World) : Prop := e = .returned (.tuple #[.slice a L.length c, .int .i64 code]) ∧ Fr NoB w w'
set_option maxRecDepth 100000 in
set_option maxHeartbeats 4000000 in
theorem SetOf_no (a : Option Addr) (c : Nat) (L : List Tb.Rt) (l b hop : Int) (w : World) (hl : L.length ≤ 1000) (ha : Rs w a L) (hc : Tb.setC L ⟨l, b⟩ hop ≠ 0) :
    Calls Try.prog 32 #[.slice a L.length c, .agg #[.int .i64 l, .int .i64 b], .int .i64 hop] w (SoNo a c L (Tb.setC L ⟨l, b⟩ hop) w) := by
  have HA := Lib.hid ha; clear ha
  by_cases hok : Tb.ok ⟨l, b⟩
  · have hd := decide_eq_true hok
    by_cases h2 : hop = -2
    · subst h2
      by_cases hg : Tb.get L ⟨l, b⟩ = -2
      · have e : Tb.setC L ⟨l, b⟩ (-2) = 6 := by unfold Tb.setC; rw [if_neg (by simp [hok]), if_pos ⟨hg, rfl⟩]
        rw [e]
        have HD := Lib.hid hd; clear hd; have HOK := Lib.hid hok; clear hok; have HG := Lib.hid hg; clear hg
        clear e hc
        go_enter Try.func32, Try.ntmps32
        go_wp2_with fail
        refine (IsPrefix_any l b _).mono ?_
        rw [HD.out]
        rintro e w1 ⟨rfl, hf⟩
        have c0 := cell_fr' hf (box0 w (.int .i64 l) (.int .i64 b) 31) (fun h => h)
        have c1 := cell_fr' hf (box1 w (.int .i64 l) (.int .i64 b) 31) (fun h => h)
        have HF1 := Lib.hid (((Fr.refl NoB w).alloc _).trans hf)
        clear hf
        go_wp2_with fail
        refine (GetOf_any a c L l b _ hl (HA.out.keep0 HF1.out)).mono ?_
        rw [HG.out]
        rintro e w3 ⟨rfl, hf⟩
        have c0 := cell_fr' hf c0 (fun h => h)
        have c1 := cell_fr' hf c1 (fun h => h)
        have HF3 := Lib.hid (HF1.out.trans hf)
        clear hf HF1
        go_wp2
        refine bodyPost_ret (v := .tuple #[.slice a L.length c, .int .i64 6]) ?_ rfl (show SoNo a c L 6 w (.returned (.tuple #[.slice a L.length c, .int .i64 6])) _ from ⟨rfl, HF3.out⟩)
        simp [results, Try.results32, go_sem]
      · exact absurd (by unfold Tb.setC; rw [if_neg (by simp [hok]), if_neg (fun h => hg h.1), if_neg (fun h => hg h.1)]) hc
    · have hb : (hop == -2) = false := by simpa using h2
      have hb2 : (hop != -2) = true := by simpa using h2
      by_cases hho : Tb.hopOK hop
      · have hd2 := decide_eq_true hho
        by_cases hg : Tb.get L ⟨l, b⟩ = -2
        · by_cases h40 : 40 ≤ L.length
          · have e : Tb.setC L ⟨l, b⟩ hop = 9 := by unfold Tb.setC; rw [if_neg (by simp [hok, hho]), if_neg (fun h => h2 h.2), if_pos ⟨hg, h40⟩]
            have hb40 : (40 : Int) ≤ (L.length : Int) := by omega
            rw [e]
            have HD := Lib.hid hd; clear hd; have HOK := Lib.hid hok; clear hok; have HG := Lib.hid hg; clear hg; have HD2 := Lib.hid hd2; clear hd2; have HHO := Lib.hid hho; clear hho
            clear e hc h2
            go_enter Try.func32, Try.ntmps32
            go_wp2_with fail
            refine (IsPrefix_any l b _).mono ?_
            rw [HD.out]
            rintro e w1 ⟨rfl, hf⟩
            have c0 := cell_fr' hf (box0 w (.int .i64 l) (.int .i64 b) 31) (fun h => h)
            have c1 := cell_fr' hf (box1 w (.int .i64 l) (.int .i64 b) 31) (fun h => h)
            have HF1 := Lib.hid (((Fr.refl NoB w).alloc _).trans hf)
            clear hf
            go_wp2_with fail
            refine (IsHop_any hop _).mono ?_
            rw [HD2.out]
            rintro e w2 ⟨rfl, rfl⟩
            go_wp2_with fail
            refine (GetOf_any a c L l b _ hl (HA.out.keep0 HF1.out)).mono ?_
            rw [HG.out]
            rintro e w3 ⟨rfl, hf⟩
            have c0 := cell_fr' hf c0 (fun h => h)
            have c1 := cell_fr' hf c1 (fun h => h)
            have HF3 := Lib.hid (HF1.out.trans hf)
            clear hf HF1
            go_wp2
            refine bodyPost_ret (v := .tuple #[.slice a L.length c, .int .i64 9]) ?_ rfl (show SoNo a c L 9 w (.returned (.tuple #[.slice a L.length c, .int .i64 9])) _ from ⟨rfl, HF3.out⟩)
            simp [results, Try.results32, go_sem]
          · exact absurd (by unfold Tb.setC; rw [if_neg (by simp [hok, hho]), if_neg (fun h => h2 h.2), if_neg (fun h => h40 h.2)]) hc
        · exact absurd (by unfold Tb.setC; rw [if_neg (by simp [hok, hho]), if_neg (fun h => hg h.1), if_neg (fun h => hg h.1)]) hc
      · have hd2 := decide_eq_false hho
        have e : Tb.setC L ⟨l, b⟩ hop = 1 := by unfold Tb.setC; rw [if_pos (.inr ⟨h2, hho⟩)]
        rw [e]
        have HD := Lib.hid hd; clear hd; have HOK := Lib.hid hok; clear hok; have HD2 := Lib.hid hd2; clear hd2; have HHO := Lib.hid hho; clear hho
        clear e hc h2
        go_enter Try.func32, Try.ntmps32
        go_wp2_with fail
        refine (IsPrefix_any l b _).mono ?_
        rw [HD.out]
        rintro e w1 ⟨rfl, hf⟩
        have c0 := cell_fr' hf (box0 w (.int .i64 l) (.int .i64 b) 31) (fun h => h)
        have c1 := cell_fr' hf (box1 w (.int .i64 l) (.int .i64 b) 31) (fun h => h)
        have HF1 := Lib.hid (((Fr.refl NoB w).alloc _).trans hf)
        clear hf
        go_wp2_with fail
        refine (IsHop_any hop _).mono ?_
        rw [HD2.out]
        rintro e w2 ⟨rfl, rfl⟩
        go_wp2
        refine bodyPost_ret (v := .tuple #[.slice a L.length c, .int .i64 1]) ?_ rfl (show SoNo a c L 1 w (.returned (.tuple #[.slice a L.length c, .int .i64 1])) _ from ⟨rfl, HF1.out⟩)
        simp [results, Try.results32, go_sem]
  · have hd := decide_eq_false hok
    have e : Tb.setC L ⟨l, b⟩ hop = 1 := by unfold Tb.setC; rw [if_pos (.inl hok)]
    rw [e]
    have HD := Lib.hid hd; clear hd; have HOK := Lib.hid hok; clear hok
    clear e hc
    go_enter Try.func32, Try.ntmps32
    go_wp2_with fail
    refine (IsPrefix_any l b _).mono ?_
    rw [HD.out]
    rintro e w1 ⟨rfl, hf⟩
    have c0 := cell_fr' hf (box0 w (.int .i64 l) (.int .i64 b) 31) (fun h => h)
    have c1 := cell_fr' hf (box1 w (.int .i64 l) (.int .i64 b) 31) (fun h => h)
    have HF1 := Lib.hid (((Fr.refl NoB w).alloc _).trans hf)
    clear hf
    go_wp2
    refine bodyPost_ret (v := .tuple #[.slice a L.length c, .int .i64 1]) ?_ rfl (show SoNo a c L 1 w (.returned (.tuple #[.slice a L.length c, .int .i64 1])) _ from ⟨rfl, HF1.out⟩)
    simp [results, Try.results32, go_sem]
end Go.Proofs.Ytdkkeaegmmepfaa
