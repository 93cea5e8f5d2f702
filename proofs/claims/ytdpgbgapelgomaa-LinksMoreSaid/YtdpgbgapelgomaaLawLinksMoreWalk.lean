/- The walk of LinksMore. -/
import Derived.Test.YtdpgbgapelgomaaLk8
import Derived.Test.YtdpgbgapelgomaaLkMore
namespace Go.Proofs.Ytdpgbgapelgomaa
open Go.RowKit Go.Deep

theorem setC_ab (C : Nat → Nat → Int) (a b : Nat) (v : Int) : setC C a b v a b = v := by
  unfold setC updC
  by_cases h : a = b ∧ b = a
  · rw [if_pos h]
  · rw [if_neg h, if_pos ⟨rfl, rfl⟩]
theorem setC_ba (C : Nat → Nat → Int) (a b : Nat) (v : Int) : setC C a b v b a = v := by
  unfold setC updC
  rw [if_pos ⟨rfl, rfl⟩]
theorem setC_other (C : Nat → Nat → Int) (a b : Nat) (v : Int) (x y : Nat) (h1 : ¬ (x = a ∧ y = b)) (h2 : ¬ (x = b ∧ y = a)) : setC C a b v x y = C x y := by
  unfold setC updC
  rw [if_neg h2, if_neg h1]

theorem less_of {C : Nat → Nat → Int} {a b : Nat} {v : Int} (h : 0 < v) (h2 : C a b = 0 ∨ v ≤ C a b) : Lk.Less C (setC C a b v) a b v :=
  ⟨h, setC_ab C a b v, setC_ba C a b v, fun x y _ _ h1 h2 => setC_other C a b v x y h1 h2, h2⟩

/-- Not less, another cost: nobody nearer. -/
theorem more_le {C : Nat → Nat → Int} (hc : Lk.CostOK C) {a b : Nat} (ha : a < 6) (hb : b < 6) {v : Int} (hn : ¬ (0 < v ∧ (C a b = 0 ∨ v ≤ C a b))) (hd : Lk.CostOK (setC C a b v)) (s : Int) (m : Nat) (hm : m < 6) :
    Lk.far C s m ≤ Lk.far (setC C a b v) s m := by
  refine Lk.mono (Lk.far_sol hd s) (Lk.far_sol hc s) ?_ m hm
  intro x y hx hy h
  have h3 := hc.sym a b ha hb
  have h4 := hc.lo a b ha hb
  by_cases e1 : x = a ∧ y = b
  · obtain ⟨rfl, rfl⟩ := e1
    rw [setC_ab] at h ⊢
    omega
  · by_cases e2 : x = b ∧ y = a
    · obtain ⟨rfl, rfl⟩ := e2
      rw [setC_ba] at h ⊢
      omega
    · rw [setC_other _ _ _ _ _ _ e1 e2] at h ⊢
      omega
/-- The same cost: as far. -/
theorem same_eq {C : Nat → Nat → Int} (hc : Lk.CostOK C) {a b : Nat} (ha : a < 6) (hb : b < 6) (hd : Lk.CostOK (setC C a b (C a b))) (s : Int) (m : Nat) (hm : m < 6) :
    Lk.far (setC C a b (C a b)) s m = Lk.far C s m := by
  have he : ∀ x y, x < 6 → y < 6 → C x y = setC C a b (C a b) x y := by
    intro x y hx hy
    by_cases e1 : x = a ∧ y = b
    · obtain ⟨rfl, rfl⟩ := e1; rw [setC_ab]
    · by_cases e2 : x = b ∧ y = a
      · obtain ⟨rfl, rfl⟩ := e2; rw [setC_ba]; exact hc.sym x y hx hy
      · rw [setC_other _ _ _ _ _ _ e1 e2]
  exact (Lk.far_sol hd s).uniq ((Lk.far_sol hc s).congr he (fun _ _ => rfl)) m hm

/-- What a link costs, of whatever two numbers. -/
def costV (C : Nat → Nat → Int) (a b : Int) : Int := if 0 ≤ a ∧ a < 6 ∧ 0 ≤ b ∧ b < 6 then C a.toNat b.toNat else 0
theorem Cost_any (L : Nat) (a b : Int) (C : Nat → Nat → Int) (w : World) (hC : CAt w L 103 C) :
    Calls Try.prog 24 #[.pointer (some ⟨L, 0, none⟩), .int .i64 a, .int .i64 b] w fun e w' => e = .returned (.int .i64 (costV C a b)) ∧ w = w' := by
  by_cases h : 0 ≤ a ∧ a < 6 ∧ 0 ≤ b ∧ b < 6
  · obtain ⟨x, rfl⟩ := Int.eq_ofNat_of_zero_le h.1
    obtain ⟨y, rfl⟩ := Int.eq_ofNat_of_zero_le h.2.2.1
    unfold costV
    rw [if_pos h, Int.toNat_natCast, Int.toNat_natCast]
    exact Cost_yes L x y C w (by omega) (by omega) hC
  · unfold costV
    rw [if_neg h]
    exact Cost_no L a b w h

def Old (w : World) (O : Nat) (k : Nat) (C : Nat → Nat → Int) : Prop := w.rowIs O 40 36 (I (fun i => if i < k * 6 then Lk.far C ((i / 6 : Nat) : Int) (i % 6) else 0))
def MoreRel1 (C : Nat → Nat → Int) (w : World) (L O : Nat) (i : Value) (wr : World) : Prop :=
  ∃ k : Nat, k ≤ 6 ∧ i = .int .i64 k ∧ Old wr O k C ∧ CAt wr L 103 C ∧ Fr NoB w wr

theorem Old.next {w : World} {O k : Nat} {C : Nat → Nat → Int} (h : Old w O k C) :
    Old ((((((w.setCell ⟨O, k * 6, none⟩ (.int .i64 (Lk.far C (k : Int) 0))).setCell ⟨O, k * 6 + 1, none⟩ (.int .i64 (Lk.far C (k : Int) 1))).setCell ⟨O, k * 6 + 2, none⟩ (.int .i64 (Lk.far C (k : Int) 2))).setCell ⟨O, k * 6 + 3, none⟩ (.int .i64 (Lk.far C (k : Int) 3))).setCell ⟨O, k * 6 + 4, none⟩ (.int .i64 (Lk.far C (k : Int) 4))).setCell ⟨O, k * 6 + 5, none⟩ (.int .i64 (Lk.far C (k : Int) 5))) O (k + 1) C := by
  refine (((((((h.set (k * 6) _).set (k * 6 + 1) _).set (k * 6 + 2) _).set (k * 6 + 3) _).set (k * 6 + 4) _).set (k * 6 + 5) _)).congr ?_
  intro i hi
  by_cases e : k * 6 ≤ i ∧ i < k * 6 + 6
  · obtain ⟨j, rfl⟩ : ∃ j, i = k * 6 + j := ⟨i - k * 6, by omega⟩
    have hj : j < 6 := by omega
    simp only [I]
    rw [if_pos (show k * 6 + j < (k + 1) * 6 by omega), show (k * 6 + j) / 6 = k from by omega, show (k * 6 + j) % 6 = j from by omega]
    match j, hj with
    | 0, _ => simp
    | 1, _ => simp
    | 2, _ => simp
    | 3, _ => simp
    | 4, _ => simp
    | 5, _ => simp
  · rw [if_neg (by omega), if_neg (by omega), if_neg (by omega), if_neg (by omega), if_neg (by omega), if_neg (by omega)]
    simp only [I]
    by_cases h2 : i < k * 6
    · rw [if_pos h2, if_pos (by omega)]
    · rw [if_neg h2, if_neg (by omega)]

theorem six_row {w : World} {b : Nat} {t : TypeId} {n : Nat} {f : Nat → Value} {O k : Nat} (h : w.rowIs b t n f) (hb : b ≠ O) (v0 v1 v2 v3 v4 v5 : Value) :
    ((((((w.setCell ⟨O, k * 6, none⟩ v0).setCell ⟨O, k * 6 + 1, none⟩ v1).setCell ⟨O, k * 6 + 2, none⟩ v2).setCell ⟨O, k * 6 + 3, none⟩ v3).setCell ⟨O, k * 6 + 4, none⟩ v4).setCell ⟨O, k * 6 + 5, none⟩ v5).rowIs b t n f :=
  (((((h.setOther hb _).setOther hb _).setOther hb _).setOther hb _).setOther hb _).setOther hb _
theorem six_fr {S : Nat → Prop} {a w : World} {O k : Nat} (h : Fr S a w) (hb : a.heap.size ≤ O) (v0 v1 v2 v3 v4 v5 : Value) :
    Fr S a ((((((w.setCell ⟨O, k * 6, none⟩ v0).setCell ⟨O, k * 6 + 1, none⟩ v1).setCell ⟨O, k * 6 + 2, none⟩ v2).setCell ⟨O, k * 6 + 3, none⟩ v3).setCell ⟨O, k * 6 + 4, none⟩ v4).setCell ⟨O, k * 6 + 5, none⟩ v5) :=
  (((((h.setNew hb _ _).setNew hb _ _).setNew hb _ _).setNew hb _ _).setNew hb _ _).setNew hb _ _

def lessB (c v : Int) : Bool := decide ((c = 0 ∧ 0 < v) ∨ (0 < c ∧ 0 < v ∧ v ≤ c))
def CutL (c v : Int) (w : World) (s : Value) (wx : World) : Prop := s = .bool (lessB c v) ∧ wx = w
def MoreRel2 (C D : Nat → Nat → Int) (w : World) (L O : Nat) (i : Value) (wr : World) : Prop :=
  ∃ k : Nat, k ≤ 6 ∧ i = .int .i64 k ∧ Old wr O 6 C ∧ CAt wr L 103 D ∧ Fr NoB w wr
def MoreRel3 (C D : Nat → Nat → Int) (w : World) (L O N n : Nat) (i : Value) (wr : World) : Prop :=
  ∃ k : Nat, k ≤ 6 ∧ i = .int .i64 k ∧ Old wr O 6 C ∧ CAt wr L 103 D ∧ wr.rowIs N 32 6 (I (Lk.far D (n : Int))) ∧ Fr NoB w wr
theorem Old.cell {w : World} {O : Nat} {C : Nat → Nat → Int} (h : Old w O 6 C) {x y : Nat} (hx : x < 6) (hy : y < 6) : w.cell? ⟨O, x * 6 + y, none⟩ = some (.int .i64 (Lk.far C (x : Int) y)) := by
  have := World.rowIs.cell h (i := x * 6 + y) (by omega)
  simp only [I] at this
  rw [if_pos (by omega), show (x * 6 + y) / 6 = x from by omega, show (x * 6 + y) % 6 = y from by omega] at this
  exact this

def CutC (C : Nat → Nat → Int) (w : World) (L O : Nat) (wx : World) : Prop := Old wx O 6 C ∧ CAt wx L 103 C ∧ Fr NoB w wx

set_option maxRecDepth 100000 in
set_option maxHeartbeats 8000000 in
theorem LinksMore_main (a0 : Option Addr) (n c : Nat) (X : Nat → Int) (a b v : Int) (w : World) (hn : n ≤ 200) (hX : Rd w a0 (n * 3) X) :
    Calls Try.prog 5 #[.slice a0 n c, .int .i64 a, .int .i64 b, .int .i64 v] w (TrueFr w) := by
  have HX := Lib.hid hX; clear hX
  go_enter Try.func5, Try.ntmps5
  go_wp2_with fail
  refine (linksBegun_true _).mono ?_
  rintro e w1 ⟨rfl, hF⟩
  have hX := HX.out.keep hF (fun _ _ h => h)
  have HX := Lib.hid hX; clear hX
  have HF := Lib.hid hF; clear hF
  go_wp2_with fail
  refine (Maps_any a0 n c X _ (by omega) HX.out).mono ?_
  rintro e w2 ⟨L, M, rfl, hL1, _, _, hL, _, hF⟩
  have hFs : w.heap.size ≤ w1.heap.size := HF.out.size
  have HFs := Lib.hid hFs; clear hFs
  have HF := Lib.hid (HF.out.trans hF); clear hF
  have hc := CostOK.maps X n
  have HL1 := Lib.hid hL1; clear hL1
  generalize mapsC X n = C at *
  have HH := Lib.hid hc; clear hc
  have HL := Lib.hid hL; clear hL
  go_wp2_with fail
  refine (Cost_any L a b C _ HL.out).mono ?_; rintro e w3 ⟨rfl, rfl⟩
  have HO : Hid (Old (w2.alloc (.cells (Array.replicate 36 (.int .i64 0)) 40)) w2.heap.size 0 C) := Lib.hid ((rowIs_new w2 36 (.int .i64 0) 40).congr (fun i _ => by simp [I]))
  have hLt := World.rowIs.lt HL.out
  have hOw : w.heap.size ≤ w2.heap.size := HF.out.size
  have HLt := Lib.hid hLt; clear hLt
  have HOw := Lib.hid hOw; clear hOw
  go_wp2
  go_loopw [14] (fun i wr => MoreRel1 C w L w2.heap.size i wr) (fun i _ => 6 - (intOf i).toNat)
  case atStart => exact ⟨0, by omega, rfl, HO.out, World.rowIs.alloc HL.out _, HF.out.alloc _⟩
  case round =>
    clear HO HL HF
    obtain ⟨k, hk, rfl, hO, hL, hF⟩ := hrel
    have HO := Lib.hid hO; clear hO
    have HL := Lib.hid hL; clear hL
    have HF := Lib.hid hF; clear hF
    by_cases hk6 : k < 6
    · go_wp2_with fail
      refine (Lfar L k C _ HL.out HH.out).mono ?_
      rintro e w4 ⟨rfl, hF4⟩
      have HL := Lib.hid (hF4.row HL.out (fun h => h))
      have hO4 : Old w4 w2.heap.size k C := hF4.row HO.out (fun h => h)
      have HO := Lib.hid hO4
      have HF := Lib.hid (HF.out.trans hF4); clear hF4
      have o0 := World.rowIs.cell hO4 (i := k * 6) (by omega)
      have o1 := World.rowIs.cell hO4 (i := k * 6 + 1) (by omega)
      have o2 := World.rowIs.cell hO4 (i := k * 6 + 2) (by omega)
      have o3 := World.rowIs.cell hO4 (i := k * 6 + 3) (by omega)
      have o4 := World.rowIs.cell hO4 (i := k * 6 + 4) (by omega)
      have o5 := World.rowIs.cell hO4 (i := k * 6 + 5) (by omega)
      have f0 := World.rowIs.frozen hO4 (k * 6)
      have f1 := World.rowIs.frozen hO4 (k * 6 + 1)
      have f2 := World.rowIs.frozen hO4 (k * 6 + 2)
      have f3 := World.rowIs.frozen hO4 (k * 6 + 3)
      have f4 := World.rowIs.frozen hO4 (k * 6 + 4)
      have f5 := World.rowIs.frozen hO4 (k * 6 + 5)
      clear hO4
      have hag : agg6 (Lk.far C (k : Int)) = .agg #[.int .i64 (Lk.far C (k : Int) 0), .int .i64 (Lk.far C (k : Int) 1), .int .i64 (Lk.far C (k : Int) 2), .int .i64 (Lk.far C (k : Int) 3), .int .i64 (Lk.far C (k : Int) 4), .int .i64 (Lk.far C (k : Int) 5)] := rfl
      go_wp2
      go_roundw
      case rel => exact ⟨k + 1, by omega, by go_num, HO.out.next, six_row HL.out (Nat.ne_of_lt HLt.out) _ _ _ _ _ _, six_fr HF.out HOw.out _ _ _ _ _ _⟩
      case measure => simp [intOf]; omega
    · have e6 : k = 6 := by omega
      have hO : Old wr w2.heap.size 6 C := by rw [← e6]; exact HO.out
      have HO := Lib.hid hO; clear hO e6
      by_cases hv : 0 ≤ a ∧ a < 6 ∧ 0 ≤ b ∧ b < 6 ∧ a ≠ b ∧ 0 ≤ v ∧ v ≤ 15
      · obtain ⟨ha0, ha6, hb0, hb6, hab, hv0, hv1⟩ := hv
        obtain ⟨a, rfl⟩ := Int.eq_ofNat_of_zero_le ha0
        obtain ⟨b, rfl⟩ := Int.eq_ofNat_of_zero_le hb0
        have ha : a < 6 := by omega
        have hb : b < 6 := by omega
        have habn : a ≠ b := by omega
        clear ha0 ha6 hb0 hb6 hab
        have hcv : costV C a b = C a b := by unfold costV; rw [if_pos (by omega)]; simp
        rw [hcv]
        clear hcv
        go_wp2_with fail
        refine (Set_ok L a b v C _ ha hb habn hv0 hv1 HL.out).mono ?_
        rintro e w5 ⟨rfl, hL, hF⟩
        have hd : Lk.CostOK (setC C a b v) := CostOK.set HH.out habn hv0 hv1
        have HL := Lib.hid hL
        have hO5 : Old w5 w2.heap.size 6 C := hF.row HO.out (fun h => Nat.ne_of_gt HLt.out h)
        have HO := Lib.hid hO5; clear hO5
        have HF := Lib.hid (HF.out.trans' hF (fun i hi h => by have := HL1.out; unfold OneB at h; have := HFs.out; omega)); clear hF hL
        have HD := Lib.hid hd; clear hd
        have n0 := HH.out.lo a b ha hb
        have n1 := HH.out.hi a b ha hb
        have hOw5 : w.heap.size ≤ w5.heap.size := HF.out.size
        have HOw5 := Lib.hid hOw5; clear hOw5
        go_upto_region 14 with fail
        go_cut [15] (fun s wx => CutL (C a b) v w5 s wx)
        case first =>
          by_cases g1 : C a b = 0
          · have g1a : (C a b == 0) = true := by simpa using g1
            have G1 := Lib.hid g1; clear g1
            by_cases g2 : 0 < v
            · go_wp2_with fail
              all_goals (go_meet; exact ⟨by have := G1.out; simp [lessB]; omega, rfl⟩)
            · have g2b : decide (0 < v) = false := by simpa using g2
              go_wp2_with fail
              all_goals (go_meet; exact ⟨by have := G1.out; simp [lessB]; omega, rfl⟩)
          · have g1a : (C a b == 0) = false := by simpa using g1
            have g1b : 0 < C a b := by omega
            clear g1
            by_cases g2 : 0 < v
            · have hlb : lessB (C a b) v = decide (v ≤ C a b) := by unfold lessB; exact decide_eq_decide.2 (by omega)
              have HLB := Lib.hid hlb; clear hlb
              go_wp2_with fail
              all_goals (go_meet; exact ⟨by rw [HLB.out], rfl⟩)
            · have g2b : decide (0 < v) = false := by simpa using g2
              go_wp2_with fail
              all_goals (go_meet; exact ⟨by simp [lessB]; omega, rfl⟩)
        case rest =>
          obtain ⟨rfl, rfl⟩ := hcut
          have hle : lessB (C a b) v = true → 0 < v ∧ (C a b = 0 ∨ v ≤ C a b) := by intro h; simp [lessB] at h; omega
          have hnl : lessB (C a b) v = false → ¬ (0 < v ∧ (C a b = 0 ∨ v ≤ C a b)) := by intro h; simp [lessB] at h; omega
          have HLE := Lib.hid hle; clear hle
          have HNL := Lib.hid hnl; clear hnl
          generalize lessB (C a b) v = le at *
          go_wp2
          go_loopw [16] (fun i wr => MoreRel2 C (setC C a b v) w L w2.heap.size i wr) (fun i _ => 6 - (intOf i).toNat)
          case atStart => exact ⟨0, by omega, rfl, HO.out, HL.out, HF.out⟩
          case round =>
            clear HO HL HF
            obtain ⟨x, hx, rfl, hO, hL, hF⟩ := hrel
            have HO := Lib.hid hO; clear hO
            have HL := Lib.hid hL; clear hL
            have HF := Lib.hid hF; clear hF
            by_cases hx6 : x < 6
            · have hxb : decide ((x : Int) < 6) = true := by simp; omega
              go_wp2_with fail
              refine (Lfar L x (setC C a b v) _ HL.out HD.out).mono ?_
              rintro e w6 ⟨rfl, hF6⟩
              have HL := Lib.hid (hF6.row HL.out (fun h => h))
              have hO6 : Old w6 w2.heap.size 6 C := hF6.row HO.out (fun h => h)
              have HO := Lib.hid hO6; clear hO6
              have HF := Lib.hid (HF.out.trans hF6); clear hF6
              have hag : agg6 (Lk.far (setC C a b v) (x : Int)) = .agg #[.int .i64 (Lk.far (setC C a b v) (x : Int) 0), .int .i64 (Lk.far (setC C a b v) (x : Int) 1), .int .i64 (Lk.far (setC C a b v) (x : Int) 2), .int .i64 (Lk.far (setC C a b v) (x : Int) 3), .int .i64 (Lk.far (setC C a b v) (x : Int) 4), .int .i64 (Lk.far (setC C a b v) (x : Int) 5)] := rfl
              go_wp2
              clear hag
              have hrN : (w6.alloc (.cells #[.int .i64 (Lk.far (setC C a b v) (x : Int) 0), .int .i64 (Lk.far (setC C a b v) (x : Int) 1), .int .i64 (Lk.far (setC C a b v) (x : Int) 2), .int .i64 (Lk.far (setC C a b v) (x : Int) 3), .int .i64 (Lk.far (setC C a b v) (x : Int) 4), .int .i64 (Lk.far (setC C a b v) (x : Int) 5)] 32)).rowIs w6.heap.size 32 6 (I (Lk.far (setC C a b v) (x : Int))) :=
                World.rowIs_alloc w6 #[.int .i64 (Lk.far (setC C a b v) (x : Int) 0), .int .i64 (Lk.far (setC C a b v) (x : Int) 1), .int .i64 (Lk.far (setC C a b v) (x : Int) 2), .int .i64 (Lk.far (setC C a b v) (x : Int) 3), .int .i64 (Lk.far (setC C a b v) (x : Int) 4), .int .i64 (Lk.far (setC C a b v) (x : Int) 5)] 32 (I (Lk.far (setC C a b v) (x : Int))) (by
                  intro i hi
                  match i, hi with
                  | 0, _ => rfl
                  | 1, _ => rfl
                  | 2, _ => rfl
                  | 3, _ => rfl
                  | 4, _ => rfl
                  | 5, _ => rfl)
              have HRN := Lib.hid hrN; clear hrN
              go_loopw [18] (fun i wr => MoreRel3 C (setC C a b v) w L w2.heap.size w6.heap.size x i wr) (fun i _ => 6 - (intOf i).toNat)
              case atStart => exact ⟨0, by omega, rfl, World.rowIs.alloc HO.out _, World.rowIs.alloc HL.out _, HRN.out, HF.out.alloc _⟩
              case round =>
                clear HO HL HF HRN
                obtain ⟨m, hm, rfl, hO, hL, hN, hF⟩ := hrel
                have HO := Lib.hid hO; clear hO
                have HL := Lib.hid hL; clear hL
                have HN := Lib.hid hN; clear hN
                have HF := Lib.hid hF; clear hF
                by_cases hm6 : m < 6
                · have q0 := rowI_cell HN.out hm6
                  have q1 := HO.out.cell hx6 hm6
                  have q2 := HO.out.cell hx6 ha
                  have q3 := HO.out.cell hb hm6
                  have q4 := HO.out.cell hx6 hb
                  have q5 := HO.out.cell ha hm6
                  have S := fun s : Int => Lk.far_sol HH.out s
                  have b1 := (S x).lo a ha
                  have b2 := (S x).hi a ha
                  have b3 := (S b).lo m hm6
                  have b4 := (S b).hi m hm6
                  have b5 := (S x).lo b hb
                  have b6 := (S x).hi b hb
                  have b7 := (S a).lo m hm6
                  have b8 := (S a).hi m hm6
                  have e1 : le = true → Lk.far (setC C a b v) x m = min (Lk.far C x m) (min (Lk.far C x a + v + Lk.far C b m) (Lk.far C x b + v + Lk.far C a m)) := by
                    intro h
                    exact Lk.less_eq (f := fun s => Lk.far C s) (g := fun s => Lk.far (setC C a b v) s) HH.out (less_of (HLE.out h).1 (HLE.out h).2) ha hb (fun s _ => Lk.far_sol HH.out s) (fun s _ => Lk.far_sol HD.out s) x m hx6 hm6
                  have e2 : le = false → Lk.far C x m ≤ Lk.far (setC C a b v) x m := fun h => more_le HH.out ha hb (HNL.out h) HD.out x m hm6
                  have e3 : v = C a b → Lk.far (setC C a b v) x m = Lk.far C x m := by
                    intro h
                    have := same_eq HH.out ha hb (by rw [← h]; exact HD.out) x m hm6
                    rw [← h] at this
                    exact this
                  clear S
                  generalize Lk.far (setC C a b v) (x : Int) m = y at *
                  generalize Lk.far C (x : Int) m = z at *
                  generalize Lk.far C (x : Int) a = p at *
                  generalize Lk.far C (b : Int) m = q at *
                  generalize Lk.far C (x : Int) b = r at *
                  generalize Lk.far C (a : Int) m = t at *
                  have E1 := Lib.hid e1; clear e1
                  have E2 := Lib.hid e2; clear e2
                  have E3 := Lib.hid e3; clear e3
                  cases le
                  · have e2 : decide (y < z) = false := by have := E2.out rfl; simp only [decide_eq_false_iff_not]; omega
                    by_cases hvc : v = C a b
                    · have hvc1 : (v == C a b) = true := by simpa using hvc
                      have hyz := E3.out hvc
                      have hyz1 : (y != z) = false := by simpa using hyz
                      have hvc2 : (v != C a b) = false := by simpa using hvc
                      clear hvc hyz
                      go_wp2
                      go_quiet (fail)
                      go_wp2
                      go_quiet (fail)
                      go_wp2
                      all_goals (go_quiet (fail))
                      all_goals go_wp2
                      all_goals (go_roundw; (case rel => exact ⟨m + 1, by omega, by go_num, HO.out, HL.out, HN.out, HF.out.drewN _⟩); (case measure => simp [intOf]; omega))
                    · have hvc1 : (v == C a b) = false := by simpa using hvc
                      have hvc2 : (v != C a b) = true := by simpa using hvc
                      clear hvc
                      go_wp2
                      go_quiet (fail)
                      go_wp2
                      go_quiet (fail)
                      go_wp2
                      all_goals (go_quiet (fail))
                      all_goals go_wp2
                      all_goals (go_roundw; (case rel => exact ⟨m + 1, by omega, by go_num, HO.out, HL.out, HN.out, HF.out.drewN _⟩); (case measure => simp [intOf]; omega))
                  · have e1 := E1.out rfl
                    have e1a : y ≤ z := by omega
                    have e1b : decide (z < y) = false := by simp only [decide_eq_false_iff_not]; omega
                    have e1c : y ≤ min z (min (p + v + q) (r + v + t)) := by omega
                    have e1d : min z (min (p + v + q) (r + v + t)) ≤ y := by omega
                    clear e1
                    by_cases hvc : v = C a b
                    · have hvc1 : (v == C a b) = true := by simpa using hvc
                      have hyz := E3.out hvc
                      have hyz1 : (y != z) = false := by simpa using hyz
                      have hvc2 : (v != C a b) = false := by simpa using hvc
                      clear hvc hyz
                      go_wp2
                      go_quiet (fail)
                      go_wp2
                      go_quiet (fail)
                      go_wp2
                      all_goals (go_quiet (fail))
                      all_goals go_wp2
                      all_goals (go_roundw; (case rel => exact ⟨m + 1, by omega, by go_num, HO.out, HL.out, HN.out, HF.out.drewN _⟩); (case measure => simp [intOf]; omega))
                    · have hvc1 : (v == C a b) = false := by simpa using hvc
                      have hvc2 : (v != C a b) = true := by simpa using hvc
                      clear hvc
                      go_wp2
                      go_quiet (fail)
                      go_wp2
                      go_quiet (fail)
                      go_wp2
                      all_goals (go_quiet (fail))
                      all_goals go_wp2
                      all_goals (go_roundw; (case rel => exact ⟨m + 1, by omega, by go_num, HO.out, HL.out, HN.out, HF.out.drewN _⟩); (case measure => simp [intOf]; omega))
                · go_wp2
                  go_roundw
                  case rel => exact ⟨x + 1, by omega, by go_num, HO.out, HL.out, HF.out⟩
                  case measure => simp [intOf]; omega
            · go_wp2
              go_ret
              exact ⟨rfl, HF.out⟩
      · have HV := Lib.hid hv; clear hv
        go_wp2_with fail
        refine (Set_no L a b v _ HV.out).mono ?_
        rintro e w5 ⟨rfl, rfl⟩
        go_wp2
        go_ret
        exact ⟨rfl, HF.out⟩
end Go.Proofs.Ytdpgbgapelgomaa
