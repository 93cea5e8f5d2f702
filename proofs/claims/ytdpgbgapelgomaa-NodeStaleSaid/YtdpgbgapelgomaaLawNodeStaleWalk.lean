/- The walk of NodeStale. -/
import Derived.Test.YtdpgbgapelgomaaNd12
import Derived.Test.YtdpgbgapelgomaaNdMath4
namespace Go.Proofs.Ytdpgbgapelgomaa
open Go.RowKit Go.Deep

/-- News in a block of its own. -/
def B5 (w : World) (p : Nat) (y : Nat → Int) : Prop := w.rowIs p 49 5 (I y)
theorem B5.new (w : World) (y : Nat → Int) : B5 (w.alloc (.cells #[.int .i64 (y 0), .int .i64 (y 1), .int .i64 (y 2), .int .i64 (y 3), .int .i64 (y 4)] 49)) w.heap.size y :=
  World.rowIs_alloc w _ _ (I y) (fun i hi => by
    match i, hi with
    | 0, _ => rfl
    | 1, _ => rfl
    | 2, _ => rfl
    | 3, _ => rfl
    | 4, _ => rfl)
theorem Fr.two {N M : Nat} {w a b : World} (h : Fr NoB w a) (k : Fr (TwoB N M) a b) (hN : w.heap.size ≤ N) (hM : w.heap.size ≤ M) : Fr NoB w b :=
  h.trans' k (fun i hi h => by rcases h with h | h <;> omega)
theorem RBetter_is (a b c d : Int) (r : Bool) (w : World) (h : Nd.betB a b c d = r) :
    Calls Try.prog 41 #[.int .i64 a, .int .i64 b, .int .i64 c, .int .i64 d] w fun e w' => e = .returned (.bool r) ∧ w = w' := by
  subst h; exact RBetter_any a b c d w
def SlRel1 (me : Nat) (X : Nat → Int) (n p : Nat) (y : Nat → Int) (w : World) (N M : Nat) (i : Value) (wr : World) : Prop :=
  ∃ k : Nat, k ≤ n ∧ i = .int .i64 k ∧ NAt wr N 110 (Nd.runN me X k) ∧ NAt wr M 68 (Nd.runN me X k) ∧ B5 wr p y ∧ Fr NoB w wr
/-- The ways as they were, of the first k nodes. -/
def wasF (s : Nd.NS) (k : Nat) (j : Nat) : Int := if j < k * 3 then Nd.flat s (79 + j) else 0
def WsAt (w : World) (p : Nat) (s : Nd.NS) (k : Nat) : Prop := w.rowIs p 66 18 (I (wasF s k))
theorem WsAt.c0 {w : World} {p : Nat} {s : Nd.NS} (h : WsAt w p s 6) {k : Nat} (hk : k < 6) : w.cell? ⟨p, k * 3, none⟩ = some (.int .i64 (s.wS k)) := by
  have := rowI_cell h (i := k * 3) (by omega)
  rw [wasF, if_pos (by omega), Nd.flat_wS s hk] at this
  exact this
theorem WsAt.c1 {w : World} {p : Nat} {s : Nd.NS} (h : WsAt w p s 6) {k : Nat} (hk : k < 6) : w.cell? ⟨p, k * 3 + 1, none⟩ = some (.int .i64 (s.wD k)) := by
  have := rowI_cell h (i := k * 3 + 1) (by omega)
  rw [wasF, if_pos (by omega), ← Nat.add_assoc, Nd.flat_wD s hk] at this
  exact this
theorem WsAt.c2 {w : World} {p : Nat} {s : Nd.NS} (h : WsAt w p s 6) {k : Nat} (hk : k < 6) : w.cell? ⟨p, k * 3 + 2, none⟩ = some (.int .i64 (s.wH k)) := by
  have := rowI_cell h (i := k * 3 + 2) (by omega)
  rw [wasF, if_pos (by omega), ← Nat.add_assoc, Nd.flat_wH s hk] at this
  exact this
theorem WsAt.any {w : World} {p : Nat} {s : Nd.NS} {k0 : Nat} (h : WsAt w p s k0) {i : Nat} (hi : i < 18) : ∃ v, w.cell? ⟨p, i, none⟩ = some (.int .i64 v) := ⟨_, rowI_cell h hi⟩
theorem WsAt.set {w : World} {p : Nat} {s : Nd.NS} {k : Nat} (h : WsAt w p s k) (hk : k < 6) :
    WsAt (((w.setCell ⟨p, k * 3, none⟩ (.int .i64 (s.wS k))).setCell ⟨p, k * 3 + 1, none⟩ (.int .i64 (s.wD k))).setCell ⟨p, k * 3 + 2, none⟩ (.int .i64 (s.wH k))) p s (k + 1) :=
  rowI_set (rowI_set (rowI_set h (k * 3) _ (g := fun j => if j = k * 3 then s.wS k else wasF s k j) (fun j _ => rfl)) (k * 3 + 1) _ (g := fun j => if j = k * 3 + 1 then s.wD k else if j = k * 3 then s.wS k else wasF s k j) (fun j _ => rfl)) (k * 3 + 2) _ (fun j hj => by
    by_cases h2 : j = k * 3 + 2
    · subst h2; rw [if_pos rfl, wasF, if_pos (by omega), ← Nat.add_assoc, Nd.flat_wH s hk]
    · rw [if_neg h2]
      by_cases h1 : j = k * 3 + 1
      · subst h1; rw [if_pos rfl, wasF, if_pos (by omega), ← Nat.add_assoc, Nd.flat_wD s hk]
      · rw [if_neg h1]
        by_cases h0 : j = k * 3
        · subst h0; rw [if_pos rfl, wasF, if_pos (by omega), Nd.flat_wS s hk]
        · rw [if_neg h0]
          unfold wasF
          have : j < (k + 1) * 3 ↔ j < k * 3 := by omega
          simp only [this])
theorem Way_as (b k : Nat) (s s' : Nd.NS) (w : World) (hk : k < 6) (he : Nd.wayOf s' k = Nd.wayOf s k) (hn : NAt w b 110 s') :
    Calls Try.prog 35 #[.pointer (some ⟨b, 0, none⟩), .int .i64 k] w (WayIn s k w) := by
  refine (Way_in b k s' w hk hn).mono ?_
  rintro e w' ⟨rfl, hf⟩
  simp only [Nd.wayOf, Nd.Way.mk.injEq] at he
  exact ⟨by rw [he.1, he.2.1, he.2.2], hf⟩
def SlRel2 (s : Nd.NS) (p q : Nat) (y : Nat → Int) (w : World) (N : Nat) (i : Value) (wr : World) : Prop :=
  ∃ k : Nat, k ≤ 6 ∧ i = .int .i64 k ∧ NAt wr N 110 s ∧ WsAt wr q s k ∧ B5 wr p y ∧ Fr NoB w wr
def SlRel3 (s s' : Nd.NS) (p q : Nat) (y : Nat → Int) (w : World) (N : Nat) (i : Value) (wr : World) : Prop :=
  ∃ k : Nat, k ≤ 6 ∧ i = .int .i64 k ∧ NAt wr N 110 s' ∧ WsAt wr q s 6 ∧ B5 wr p y ∧ Fr NoB w wr

set_option maxRecDepth 100000 in
set_option maxHeartbeats 8000000 in
theorem NodeStale_main (me : Nat) (a0 : Option Addr) (n c : Nat) (X y : Nat → Int) (w : World) (hn : n ≤ 200) (hme : me < 6) (hX : Rd w a0 (n * 7) X) :
    Calls Try.prog 9 #[.int .i64 me, .slice a0 n c, .agg #[.int .i64 (y 0), .int .i64 (y 1), .int .i64 (y 2), .int .i64 (y 3), .int .i64 (y 4)]] w (TrueFr w) := by
  have HX := Lib.hid hX; clear hX
  go_enter Try.func9, Try.ntmps9
  go_wp2_with fail
  have hb := B5.new w y
  refine (nodeBegun_true _).mono ?_
  rintro e w1 ⟨rfl, hF⟩
  have hb := hF.row hb (fun h => h)
  have hF := ((Fr.refl NoB w).alloc _).trans hF
  have hp0 := World.rowIs.lt hb
  have HF := Lib.hid hF; clear hF; have HB := Lib.hid hb; clear hb
  go_wp2_with fail
  refine (New_yes me _ hme).mono ?_
  rintro e w2 ⟨rfl, hN, hF⟩
  have hNz := HF.out.size
  have hb := hF.row HB.out (fun h => h)
  have hF := HF.out.trans hF
  have hNp : w.heap.size ≠ w1.heap.size := by omega
  clear HF HB hp0
  have HN := Lib.hid hN; clear hN; have HF := Lib.hid hF; clear hF; have HB := Lib.hid hb; clear hb
  go_wp2_with fail
  refine (NewMind_any me _ hme).mono ?_
  rintro e w3 ⟨rfl, hM, hF⟩
  have hMz := HF.out.size
  have hNM : w1.heap.size ≠ w2.heap.size := by have := HN.out.lt; omega
  have hMp : w.heap.size ≠ w2.heap.size := by have := World.rowIs.lt HB.out; omega
  have hN := HN.out.keep hF (fun h => h)
  have hb := hF.row HB.out (fun h => h)
  have hF := HF.out.trans hF
  clear HF HN HB
  have HN := Lib.hid hN; clear hN; have HM := Lib.hid hM; clear hM; have HF := Lib.hid hF; clear hF; have HB := Lib.hid hb; clear hb; have HNM := Lib.hid hNM; clear hNM; have HNZ := Lib.hid hNz; clear hNz; have HMZ := Lib.hid hMz; clear hMz; have HNP := Lib.hid hNp; clear hNp; have HMP := Lib.hid hMp; clear hMp
  go_wp2
  go_loopw [9] (fun i wr => SlRel1 me X n w.heap.size y w w1.heap.size w2.heap.size i wr) (fun i _ => n - (intOf i).toNat)
  case atStart => exact ⟨0, by omega, rfl, HN.out, HM.out, HB.out, HF.out⟩
  case round =>
    clear HN HM HF HB
    obtain ⟨k, hk, rfl, h1, h2, h4, h3⟩ := hrel
    have HN := Lib.hid h1; clear h1; have HM := Lib.hid h2; clear h2; have HF := Lib.hid h3; clear h3; have HB := Lib.hid h4; clear h4
    have HR := Lib.hid (Nd.runN_run hme X k)
    by_cases hkn : k < n
    · obtain ⟨b0, o0, rfl, c0⟩ := HX.out (k * 7) (by omega)
      obtain ⟨b1, o1, e1, c1⟩ := HX.out (k * 7 + 1) (by omega)
      obtain ⟨b2, o2, e2, c2⟩ := HX.out (k * 7 + 2) (by omega)
      obtain ⟨b3, o3, e3, c3⟩ := HX.out (k * 7 + 3) (by omega)
      obtain ⟨b4, o4, e4, c4⟩ := HX.out (k * 7 + 4) (by omega)
      obtain ⟨b5, o5, e5, c5⟩ := HX.out (k * 7 + 5) (by omega)
      obtain ⟨b6, o6, e6, c6⟩ := HX.out (k * 7 + 6) (by omega)
      cases e1; cases e2; cases e3; cases e4; cases e5; cases e6
      have hst : Nd.runN me X (k + 1) = Nd.stepN (Nd.runN me X k) (X (k * 7)) (X (k * 7 + 1)) (X (k * 7 + 2)) (X (k * 7 + 4)) (X (k * 7 + 5)) (X (k * 7 + 6)) := rfl
      generalize X (k * 7) = x0 at *
      generalize X (k * 7 + 1) = x1 at *
      generalize X (k * 7 + 2) = x2 at *
      generalize X (k * 7 + 3) = x3 at *
      generalize X (k * 7 + 4) = x4 at *
      generalize X (k * 7 + 5) = x5 at *
      generalize X (k * 7 + 6) = x6 at *
      have HST := Lib.hid hst; clear hst
      have c0 := cell_fr HF.out c0 (fun h => h)
      have c1 := cell_fr HF.out c1 (fun h => h)
      have c2 := cell_fr HF.out c2 (fun h => h)
      have c3 := cell_fr HF.out c3 (fun h => h)
      have c4 := cell_fr HF.out c4 (fun h => h)
      have c5 := cell_fr HF.out c5 (fun h => h)
      have c6 := cell_fr HF.out c6 (fun h => h)
      rw [← Nat.add_assoc] at c1 c2 c3 c4 c5 c6
      go_wp2_with fail
      refine (nodeStep_any w1.heap.size w2.heap.size x0 x1 x2 x3 x4 x5 x6 _ k _ HR.out (by omega) HNM.out HN.out HM.out).mono ?_
      rintro e w4 ⟨rfl, h1, h2, h3⟩
      have h4 : B5 w4 w.heap.size y := h3.row HB.out (fun h => by rcases h with h | h; exact HNP.out h; exact HMP.out h)
      have h3 := HF.out.two h3 HNZ.out HMZ.out
      rw [← HST.out] at h1 h2
      clear HN HM HF HB c0 c1 c2 c3 c4 c5 c6 HR
      have HN := Lib.hid h1; clear h1; have HM := Lib.hid h2; clear h2; have HF := Lib.hid h3; clear h3; have HB := Lib.hid h4; clear h4
      go_wp2
      go_roundw
      case rel => exact ⟨k + 1, by omega, by go_num, HN.out, HM.out, HB.out, HF.out⟩
      case measure => simp [intOf]; omega
    · generalize hsk : Nd.runN me X k = s at *
      have hsm : s.me = me := by rw [← hsk]; exact Nd.runN_me me X k
      have hkb : decide ((k : Int) < (n : Int)) = false := by simp; omega
      clear hsk
      have HSM := Lib.hid hsm; clear hsm
      clear HM
      go_wp2
      clear hkb
      refine wp_name fun w4 hw4 => ?_
      have hf : Fr NoB wr w4 := by rw [hw4]; exact (Fr.refl _ _).alloc _
      have hq : WsAt w4 wr.heap.size s 0 := by
        rw [hw4]
        exact (rowIs_new wr 18 (.int .i64 0) 66).congr (fun i hi => by simp [I, wasF])
      have h1 := HN.out.keep hf (fun h => h)
      have h4 := hf.row HB.out (fun h => h)
      have hqN : wr.heap.size ≠ w1.heap.size := by have := HN.out.lt; omega
      have hqp : wr.heap.size ≠ w.heap.size := by have := World.rowIs.lt HB.out; omega
      have hqz := HF.out.size
      have h3 := HF.out.trans hf
      generalize wr.heap.size = q at *
      clear HN HF HB hf hw4
      have HN := Lib.hid h1; clear h1; have HF := Lib.hid h3; clear h3; have HB := Lib.hid h4; clear h4; have HQ := Lib.hid hq; clear hq; have HQN := Lib.hid hqN; clear hqN; have HQP := Lib.hid hqp; clear hqp; have HQZ := Lib.hid hqz; clear hqz
      go_loopw [11] (fun i wr => SlRel2 s w.heap.size q y w w1.heap.size i wr) (fun i _ => 6 - (intOf i).toNat)
      case atStart => exact ⟨0, by omega, rfl, HN.out, HQ.out, HB.out, HF.out⟩
      case round =>
        clear HN HF HB HQ
        obtain ⟨j, hj, rfl, h1, hq, h4, h3⟩ := hrel
        have HN := Lib.hid h1; clear h1; have HF := Lib.hid h3; clear h3; have HB := Lib.hid h4; clear h4; have HQ := Lib.hid hq; clear hq
        by_cases hj6 : j < 6
        · go_wp2_with fail
          refine (Way_in _ j s _ hj6 HN.out).mono ?_
          rintro e w5 ⟨rfl, hf⟩
          have h1 := HN.out.keep hf (fun h => h)
          have hq : WsAt w5 q s j := hf.row HQ.out (fun h => h)
          have h4 := hf.row HB.out (fun h => h)
          have h3 := HF.out.trans hf
          clear HN HF HB HQ hf
          obtain ⟨z0, g0⟩ := hq.any (i := j * 3) (by omega)
          obtain ⟨z1, g1⟩ := hq.any (i := j * 3 + 1) (by omega)
          obtain ⟨z2, g2⟩ := hq.any (i := j * 3 + 2) (by omega)
          have f0 := World.rowIs.frozen hq (j * 3)
          have f1 := World.rowIs.frozen hq (j * 3 + 1)
          have f2 := World.rowIs.frozen hq (j * 3 + 2)
          have HN := Lib.hid h1; clear h1; have HF := Lib.hid h3; clear h3; have HB := Lib.hid h4; clear h4; have HQ := Lib.hid hq; clear hq
          go_wp2
          go_roundw
          case rel => exact ⟨j + 1, by omega, by go_num, ((HN.out.other (fun h => HQN.out h.symm) _ _).other (fun h => HQN.out h.symm) _ _).other (fun h => HQN.out h.symm) _ _, HQ.out.set hj6, World.rowIs.setOther (World.rowIs.setOther (World.rowIs.setOther HB.out (a := ⟨q, _, none⟩) (fun h => HQP.out h.symm) _) (a := ⟨q, _, none⟩) (fun h => HQP.out h.symm) _) (a := ⟨q, _, none⟩) (fun h => HQP.out h.symm) _, ((HF.out.setNew HQZ.out _ _).setNew HQZ.out _ _).setNew HQZ.out _ _⟩
          case measure => simp [intOf]; omega
        · obtain rfl : j = 6 := by omega
          have g0 := rowI_cell HB.out (i := 0) (by omega)
          have g1 := rowI_cell HB.out (i := 1) (by omega)
          have g2 := rowI_cell HB.out (i := 2) (by omega)
          have g3 := rowI_cell HB.out (i := 3) (by omega)
          have g4 := rowI_cell HB.out (i := 4) (by omega)
          go_wp2_with fail
          refine (Hear_any w1.heap.size (y 0) (y 1) (y 2) (y 3) (y 4) s _ HR.out.ok HN.out).mono ?_
          rintro e w5 ⟨rfl, h1, hf⟩
          have hq : WsAt w5 q s 6 := hf.row HQ.out (fun h => HQN.out h)
          have h4 : B5 w5 w.heap.size y := hf.row HB.out (fun h => HNP.out h)
          have h3 := HF.out.trans' hf (fun i hi h => by have := HNZ.out; unfold OneB at h; omega)
          clear HN HF HB HQ hf g0 g1 g2 g3 g4
          have HF := Lib.hid h3; clear h3; have HB := Lib.hid h4; clear h4; have HQ := Lib.hid hq; clear hq
          by_cases hc : (Nd.hearC s (y 0) (y 2) (y 3) (y 4)).2 = 0
          · have hst := Nd.staleC HR.out.own hc
            rw [hc]
            clear hc
            generalize (Nd.hearC s (y 0) (y 2) (y 3) (y 4)).1 = s' at *
            have HN := Lib.hid h1; clear h1; have HST := Lib.hid hst; clear hst
            go_wp2
            obtain ⟨wo, rfl⟩ : ∃ wo : World, wo = w5 := ⟨_, rfl⟩
            go_loopw [13] (fun i wr => SlRel3 s s' w.heap.size q y w w1.heap.size i wr) (fun i _ => 6 - (intOf i).toNat)
            case atStart => exact ⟨0, by omega, rfl, HN.out, HQ.out, HB.out, HF.out⟩
            case round =>
              clear HN HF HB HQ
              obtain ⟨j, hj, rfl, h1, hq, h4, h3⟩ := hrel
              have HN := Lib.hid h1; clear h1; have HF := Lib.hid h3; clear h3; have HB := Lib.hid h4; clear h4; have HQ := Lib.hid hq; clear hq
              by_cases hj6 : j < 6
              · have hji : (j : Int) < 6 := by omega
                have hs1 := HST.out j
                obtain ⟨hs1, hs2⟩ := hs1
                have HS1 := Lib.hid hs1; clear hs1; have HS2 := Lib.hid hs2; clear hs2
                go_wp2_with fail
                refine (Best_in _ j s' _ hj6 HN.out).mono ?_
                rintro e w4 ⟨rfl, hf⟩
                have h1 := HN.out.keep hf (fun h => h)
                have hq := hf.row HQ.out (fun h => h)
                have h4 := hf.row HB.out (fun h => h)
                have h3 := HF.out.trans hf
                clear HN HF HB HQ hf
                have r0 := WsAt.c0 hq hj6
                have r1 := WsAt.c1 hq hj6
                have r2 := WsAt.c2 hq hj6
                have g0 := rowI_cell h4 (i := 0) (by omega)
                have g2 := rowI_cell h4 (i := 2) (by omega)
                have g3 := rowI_cell h4 (i := 3) (by omega)
                have g4 := rowI_cell h4 (i := 4) (by omega)
                have HN := Lib.hid h1; clear h1; have HF := Lib.hid h3; clear h3; have HB := Lib.hid h4; clear h4; have HQ := Lib.hid hq; clear hq
                by_cases ht : (j : Int) = y 2
                · have hb1 : ((j : Int) != y 2) = false := by simp [ht]
                  have hb2 : ((j : Int) == y 2) = true := by simp [ht]
                  cases hbt : Nd.betB (y 3) (y 4) (s'.bS j) (s'.bD j)
                  · have hno := HS2.out ht hbt
                    have hb3 : (s'.wH j == y 0) = false := by simpa using hno
                    have hfd := fieldHop
                    have HT := Lib.hid ht; clear ht; have HNO := Lib.hid hno; clear hno; have HBT := Lib.hid hbt; clear hbt
                    go_wp2_with fail
                    go_quiet (fail)
                    go_wp2_with fail
                    refine wp_name fun w5 hw5 => ?_
                    have h1 : NAt w5 w1.heap.size 110 s' := by rw [hw5]; exact HN.out
                    have hq : WsAt w5 q s 6 := by rw [hw5]; exact HQ.out
                    have h4 : B5 w5 w.heap.size y := by rw [hw5]; exact HB.out
                    have h3 : Fr NoB w w5 := by rw [hw5]; exact HF.out.drewN _
                    clear HN HF HB HQ hw5 r0 r1 r2 g0 g2 g3 g4 hb1
                    have g0 := rowI_cell h4 (i := 0) (by omega)
                    have g2 := rowI_cell h4 (i := 2) (by omega)
                    have g3 := rowI_cell h4 (i := 3) (by omega)
                    have g4 := rowI_cell h4 (i := 4) (by omega)
                    have HN := Lib.hid h1; clear h1; have HF := Lib.hid h3; clear h3; have HB := Lib.hid h4; clear h4; have HQ := Lib.hid hq; clear hq
                    (refine wp_region_held_drew (S := (fun W => W.cell? ⟨w.heap.size, 0, none⟩ = some (.int .i64 (y 0)) ∧ W.cell? ⟨w.heap.size, 2, none⟩ = some (.int .i64 (y 2)) ∧ W.cell? ⟨w.heap.size, 3, none⟩ = some (.int .i64 (y 3)) ∧ W.cell? ⟨w.heap.size, 4, none⟩ = some (.int .i64 (y 4)))) (by kernel_rfl) ⟨g0, g2, g3, g4⟩ (fun hHeld => ?_))
                    (refine wpAnyH_take (i := 0) (v := ?_) (by simp only [List.getElem?_toArray, List.getElem?_cons_succ, List.getElem?_cons_zero]; rfl) (by kernel_rfl) (by kernel_rfl) (by kernel_rfl) (by exact fun _ _ _ h => h) (Or.inl ⟨by rfl, ?_⟩) hHeld ?_; rotate_left; (focus (intro w hSw; (try dsimp only at hSw); go_simp; all_goals with_reducible rfl)); (try simp only [Act.put, List.setIfInBounds_toArray, List.set_cons_zero, List.set_cons_succ])); (refine wpAnyH_take (i := 1) (v := ?_) (by simp only [List.getElem?_toArray, List.getElem?_cons_succ, List.getElem?_cons_zero]; rfl) (by kernel_rfl) (by kernel_rfl) (by kernel_rfl) (by exact fun _ _ _ h => h) (Or.inl ⟨by rfl, ?_⟩) hHeld ?_; rotate_left; (focus (intro w hSw; (try dsimp only at hSw); go_simp; all_goals with_reducible rfl)); (try simp only [Act.put, List.setIfInBounds_toArray, List.set_cons_zero, List.set_cons_succ])); (refine wpAnyH_take (i := 2) (v := ?_) (by simp only [List.getElem?_toArray, List.getElem?_cons_succ, List.getElem?_cons_zero]; rfl) (by kernel_rfl) (by kernel_rfl) (by kernel_rfl) (by exact fun _ _ _ h => h) (Or.inl ⟨by rfl, ?_⟩) hHeld ?_; rotate_left; (focus (intro w hSw; (try dsimp only at hSw); go_simp; all_goals with_reducible rfl)); (try simp only [Act.put, List.setIfInBounds_toArray, List.set_cons_zero, List.set_cons_succ])); (refine wpAnyH_take (i := 3) (v := ?_) (by simp only [List.getElem?_toArray, List.getElem?_cons_succ, List.getElem?_cons_zero]; rfl) (by kernel_rfl) (by kernel_rfl) (by kernel_rfl) (by exact fun _ _ _ h => h) (Or.inl ⟨by rfl, ?_⟩) hHeld ?_; rotate_left; (focus (intro w hSw; (try dsimp only at hSw); go_simp; all_goals with_reducible rfl)); (try simp only [Act.put, List.setIfInBounds_toArray, List.set_cons_zero, List.set_cons_succ])); (refine wpAnyH_take (i := 4) (v := ?_) (by simp only [List.getElem?_toArray, List.getElem?_cons_succ, List.getElem?_cons_zero]; rfl) (by kernel_rfl) (by kernel_rfl) (by kernel_rfl) (by exact fun _ _ _ h => h) (Or.inl ⟨by rfl, ?_⟩) hHeld ?_; rotate_left; (focus (intro w hSw; (try dsimp only at hSw); go_simp; all_goals with_reducible rfl)); (try simp only [Act.put, List.setIfInBounds_toArray, List.set_cons_zero, List.set_cons_succ])); (refine wpAnyH_take (i := 5) (v := ?_) (by simp only [List.getElem?_toArray, List.getElem?_cons_succ, List.getElem?_cons_zero]; rfl) (by kernel_rfl) (by kernel_rfl) (by kernel_rfl) (by exact fun _ _ _ h => h) (Or.inl ⟨by rfl, ?_⟩) hHeld ?_; rotate_left; (focus (intro w hSw; (try dsimp only at hSw); go_simp; all_goals with_reducible rfl)); (try simp only [Act.put, List.setIfInBounds_toArray, List.set_cons_zero, List.set_cons_succ])); (refine wpAnyH_take (i := 6) (v := ?_) (by simp only [List.getElem?_toArray, List.getElem?_cons_succ, List.getElem?_cons_zero]; rfl) (by kernel_rfl) (by kernel_rfl) (by kernel_rfl) (by exact fun _ _ _ h => h) (Or.inl ⟨by rfl, ?_⟩) hHeld ?_; rotate_left; (focus (intro w hSw; (try dsimp only at hSw); go_simp; all_goals with_reducible rfl)); (try simp only [Act.put, List.setIfInBounds_toArray, List.set_cons_zero, List.set_cons_succ])); (refine wpAnyH_take (i := 7) (v := ?_) (by simp only [List.getElem?_toArray, List.getElem?_cons_succ, List.getElem?_cons_zero]; rfl) (by kernel_rfl) (by kernel_rfl) (by kernel_rfl) (by exact fun _ _ _ h => h) (Or.inl ⟨by rfl, ?_⟩) hHeld ?_; rotate_left; (focus (intro w hSw; (try dsimp only at hSw); go_simp; all_goals with_reducible rfl)); (try simp only [Act.put, List.setIfInBounds_toArray, List.set_cons_zero, List.set_cons_succ])); (refine wpAnyH_take (i := 8) (v := ?_) (by simp only [List.getElem?_toArray, List.getElem?_cons_succ, List.getElem?_cons_zero]; rfl) (by kernel_rfl) (by kernel_rfl) (by kernel_rfl) (by exact fun _ _ _ h => h) (Or.inl ⟨by rfl, ?_⟩) hHeld ?_; rotate_left; (focus (intro w hSw; (try dsimp only at hSw); go_simp; all_goals with_reducible rfl)); (try simp only [Act.put, List.setIfInBounds_toArray, List.set_cons_zero, List.set_cons_succ])); (refine wpAnyH_take (i := 9) (v := ?_) (by simp only [List.getElem?_toArray, List.getElem?_cons_succ, List.getElem?_cons_zero]; rfl) (by kernel_rfl) (by kernel_rfl) (by kernel_rfl) (by exact fun _ _ _ h => h) (Or.inl ⟨by rfl, ?_⟩) hHeld ?_; rotate_left; (focus (intro w hSw; (try dsimp only at hSw); go_simp; all_goals with_reducible rfl)); (try simp only [Act.put, List.setIfInBounds_toArray, List.set_cons_zero, List.set_cons_succ])); (refine wpAnyH_take (i := 10) (v := ?_) (by simp only [List.getElem?_toArray, List.getElem?_cons_succ, List.getElem?_cons_zero]; rfl) (by kernel_rfl) (by kernel_rfl) (by kernel_rfl) (by exact fun _ _ _ h => h) (Or.inl ⟨by rfl, ?_⟩) hHeld ?_; rotate_left; (focus (intro w hSw; (try dsimp only at hSw); go_simp; all_goals with_reducible rfl)); (try simp only [Act.put, List.setIfInBounds_toArray, List.set_cons_zero, List.set_cons_succ]))
                    (refine wpAnyH_ready (rs := [11]) (by kernel_rfl) (by simp) ?_; refine AllReadyH.cons (by simp only [List.getElem?_toArray, List.getElem?_cons_succ, List.getElem?_cons_zero]; rfl) (fun K hK => ?_) AllReadyH.nil; go_simp); (refine (RBetter_is (y 3) (y 4) (s'.bS j) (s'.bD j) false _ HBT.out).mono ?_; rintro e w7 ⟨rfl, rfl⟩); (try go_wp2_with fail); (refine hK.out _ _ ⟨g0, g2, g3, g4⟩ (fun hHeld => ?_)); clear hK K; (try simp only [Act.put, List.setIfInBounds_toArray, List.set_cons_zero, List.set_cons_succ])
                    (refine wpAnyH_take (i := 12) (v := ?_) (by simp only [List.getElem?_toArray, List.getElem?_cons_succ, List.getElem?_cons_zero]; rfl) (by kernel_rfl) (by kernel_rfl) (by kernel_rfl) (by exact fun _ _ _ h => h) (Or.inl ⟨by rfl, ?_⟩) hHeld ?_; rotate_left; (focus (intro w hSw; (try dsimp only at hSw); go_simp; all_goals with_reducible rfl)); (try simp only [Act.put, List.setIfInBounds_toArray, List.set_cons_zero, List.set_cons_succ])); (refine wpAnyH_take (i := 13) (v := ?_) (by simp only [List.getElem?_toArray, List.getElem?_cons_succ, List.getElem?_cons_zero]; rfl) (by kernel_rfl) (by kernel_rfl) (by kernel_rfl) (by exact fun _ _ _ h => h) (Or.inl ⟨by rfl, ?_⟩) hHeld ?_; rotate_left; (focus (intro w hSw; (try dsimp only at hSw); go_simp; all_goals with_reducible rfl)); (try simp only [Act.put, List.setIfInBounds_toArray, List.set_cons_zero, List.set_cons_succ])); (refine wpAnyH_take (i := 14) (v := ?_) (by simp only [List.getElem?_toArray, List.getElem?_cons_succ, List.getElem?_cons_zero]; rfl) (by kernel_rfl) (by kernel_rfl) (by kernel_rfl) (by exact fun _ _ _ h => h) (Or.inl ⟨by rfl, ?_⟩) hHeld ?_; rotate_left; (focus (intro w hSw; (try dsimp only at hSw); go_simp; all_goals with_reducible rfl)); (try simp only [Act.put, List.setIfInBounds_toArray, List.set_cons_zero, List.set_cons_succ])); (refine wpAnyH_take (i := 15) (v := ?_) (by simp only [List.getElem?_toArray, List.getElem?_cons_succ, List.getElem?_cons_zero]; rfl) (by kernel_rfl) (by kernel_rfl) (by kernel_rfl) (by exact fun _ _ _ h => h) (Or.inl ⟨by rfl, ?_⟩) hHeld ?_; rotate_left; (focus (intro w hSw; (try dsimp only at hSw); go_simp; all_goals with_reducible rfl)); (try simp only [Act.put, List.setIfInBounds_toArray, List.set_cons_zero, List.set_cons_succ])); (refine wpAnyH_take (i := 16) (v := ?_) (by simp only [List.getElem?_toArray, List.getElem?_cons_succ, List.getElem?_cons_zero]; rfl) (by kernel_rfl) (by kernel_rfl) (by kernel_rfl) (by exact fun _ _ _ h => h) (Or.inl ⟨by rfl, ?_⟩) hHeld ?_; rotate_left; (focus (intro w hSw; (try dsimp only at hSw); go_simp; all_goals with_reducible rfl)); (try simp only [Act.put, List.setIfInBounds_toArray, List.set_cons_zero, List.set_cons_succ])); (refine wpAnyH_take (i := 19) (v := ?_) (by simp only [List.getElem?_toArray, List.getElem?_cons_succ, List.getElem?_cons_zero]; rfl) (by kernel_rfl) (by kernel_rfl) (by kernel_rfl) (by exact fun _ _ _ h => h) (Or.inl ⟨by rfl, ?_⟩) hHeld ?_; rotate_left; (focus (intro w hSw; (try dsimp only at hSw); go_simp; all_goals with_reducible rfl)); (try simp only [Act.put, List.setIfInBounds_toArray, List.set_cons_zero, List.set_cons_succ])); (refine wpAnyH_take (i := 20) (v := ?_) (by simp only [List.getElem?_toArray, List.getElem?_cons_succ, List.getElem?_cons_zero]; rfl) (by kernel_rfl) (by kernel_rfl) (by kernel_rfl) (by exact fun _ _ _ h => h) (Or.inl ⟨by rfl, ?_⟩) hHeld ?_; rotate_left; (focus (intro w hSw; (try dsimp only at hSw); go_simp; all_goals with_reducible rfl)); (try simp only [Act.put, List.setIfInBounds_toArray, List.set_cons_zero, List.set_cons_succ]))
                    (refine wpAnyH_ready (rs := [17]) (by kernel_rfl) (by simp) ?_; refine AllReadyH.cons (by simp only [List.getElem?_toArray, List.getElem?_cons_succ, List.getElem?_cons_zero]; rfl) (fun K hK => ?_) AllReadyH.nil; go_simp); (refine (Way_in _ j s' _ hj6 (by exact HN.out)).mono ?_; rintro e w6 ⟨rfl, hf⟩; have t0 := cell_fr hf g0 (fun h => h); have t2 := cell_fr hf g2 (fun h => h); have t3 := cell_fr hf g3 (fun h => h); have t4 := cell_fr hf g4 (fun h => h)); (try go_wp2_with fail); (refine hK.out _ _ ⟨t0, t2, t3, t4⟩ (fun hHeld => ?_)); clear hK K; (try simp only [Act.put, List.setIfInBounds_toArray, List.set_cons_zero, List.set_cons_succ])
                    (refine wpAnyH_take (i := 18) (v := ?_) (by simp only [List.getElem?_toArray, List.getElem?_cons_succ, List.getElem?_cons_zero]; rfl) (by kernel_rfl) (by kernel_rfl) (by kernel_rfl) (by exact fun _ _ _ h => h) (Or.inl ⟨by rfl, ?_⟩) hHeld ?_; rotate_left; (focus (intro w hSw; (try dsimp only at hSw); go_simp; all_goals with_reducible rfl)); (try simp only [Act.put, List.setIfInBounds_toArray, List.set_cons_zero, List.set_cons_succ])); (refine wpAnyH_take (i := 21) (v := ?_) (by simp only [List.getElem?_toArray, List.getElem?_cons_succ, List.getElem?_cons_zero]; rfl) (by kernel_rfl) (by kernel_rfl) (by kernel_rfl) (by exact fun _ _ _ h => h) (Or.inl ⟨by rfl, ?_⟩) hHeld ?_; rotate_left; (focus (intro w hSw; (try dsimp only at hSw); go_simp; all_goals with_reducible rfl)); (try simp only [Act.put, List.setIfInBounds_toArray, List.set_cons_zero, List.set_cons_succ])); (refine wpAnyH_take (i := 22) (v := ?_) (by simp only [List.getElem?_toArray, List.getElem?_cons_succ, List.getElem?_cons_zero]; rfl) (by kernel_rfl) (by kernel_rfl) (by kernel_rfl) (by exact fun _ _ _ h => h) (Or.inl ⟨by rfl, ?_⟩) hHeld ?_; rotate_left; (focus (intro w hSw; (try dsimp only at hSw); go_simp; all_goals with_reducible rfl)); (try simp only [Act.put, List.setIfInBounds_toArray, List.set_cons_zero, List.set_cons_succ])); (refine wpAnyH_take (i := 23) (v := ?_) (by simp only [List.getElem?_toArray, List.getElem?_cons_succ, List.getElem?_cons_zero]; rfl) (by kernel_rfl) (by kernel_rfl) (by kernel_rfl) (by exact fun _ _ _ h => h) (Or.inl ⟨by rfl, ?_⟩) hHeld ?_; rotate_left; (focus (intro w hSw; (try dsimp only at hSw); go_simp; all_goals with_reducible rfl)); (try simp only [Act.put, List.setIfInBounds_toArray, List.set_cons_zero, List.set_cons_succ])); (refine wpAnyH_take (i := 24) (v := undef) (by simp only [List.getElem?_toArray, List.getElem?_cons_succ, List.getElem?_cons_zero]; rfl) (by kernel_rfl) (by kernel_rfl) (by kernel_rfl) (by exact fun _ _ _ h => h) (Or.inr ⟨by rfl, rfl⟩) hHeld ?_; (try simp only [Act.put, List.setIfInBounds_toArray, List.set_cons_zero, List.set_cons_succ])); (refine wpAnyH_take (i := 25) (v := undef) (by simp only [List.getElem?_toArray, List.getElem?_cons_succ, List.getElem?_cons_zero]; rfl) (by kernel_rfl) (by kernel_rfl) (by kernel_rfl) (by exact fun _ _ _ h => h) (Or.inr ⟨by rfl, rfl⟩) hHeld ?_; (try simp only [Act.put, List.setIfInBounds_toArray, List.set_cons_zero, List.set_cons_succ])); (refine wpAnyH_take (i := 26) (v := undef) (by simp only [List.getElem?_toArray, List.getElem?_cons_succ, List.getElem?_cons_zero]; rfl) (by kernel_rfl) (by kernel_rfl) (by kernel_rfl) (by exact fun _ _ _ h => h) (Or.inr ⟨by rfl, rfl⟩) hHeld ?_; (try simp only [Act.put, List.setIfInBounds_toArray, List.set_cons_zero, List.set_cons_succ])); (refine wpAnyH_take (i := 27) (v := ?_) (by simp only [List.getElem?_toArray, List.getElem?_cons_succ, List.getElem?_cons_zero]; rfl) (by kernel_rfl) (by kernel_rfl) (by kernel_rfl) (by exact fun _ _ _ h => h) (Or.inl ⟨by rfl, ?_⟩) hHeld ?_; rotate_left; (focus (intro w hSw; (try dsimp only at hSw); go_simp; all_goals with_reducible rfl)); (try simp only [Act.put, List.setIfInBounds_toArray, List.set_cons_zero, List.set_cons_succ]))
                    (refine wpAnyH_done (by kernel_rfl) ?_ _)
                    have h1 := NAt.keep (w := w5.drew) HN.out hf (fun h => h)
                    have hq := Fr.row (w := w5.drew) hf HQ.out (fun h => h)
                    have h4 := Fr.row (w := w5.drew) hf HB.out (fun h => h)
                    have h3 := HF.out.drew.trans hf
                    clear HN HF HB HQ hf g0 g2 g3 g4 t0 t2 t3 t4
                    have HN := Lib.hid h1; clear h1; have HF := Lib.hid h3; clear h3; have HB := Lib.hid h4; clear h4; have HQ := Lib.hid hq; clear hq
                    go_wp2
                    go_roundw
                    case rel => exact ⟨j + 1, by omega, by go_num, HN.out, HQ.out, HB.out, HF.out⟩
                    case measure => simp [intOf]; omega
                  · have HT := Lib.hid ht; clear ht
                    go_wp2_with fail
                    go_quiet (fail)
                    go_wp2_with fail
                    refine wp_name fun w5 hw5 => ?_
                    have h1 : NAt w5 w1.heap.size 110 s' := by rw [hw5]; exact HN.out
                    have hq : WsAt w5 q s 6 := by rw [hw5]; exact HQ.out
                    have h4 : B5 w5 w.heap.size y := by rw [hw5]; exact HB.out
                    have h3 : Fr NoB w w5 := by rw [hw5]; exact HF.out.drewN _
                    clear HN HF HB HQ hw5 r0 r1 r2 g0 g2 g3 g4 hb1
                    have g0 := rowI_cell h4 (i := 0) (by omega)
                    have g2 := rowI_cell h4 (i := 2) (by omega)
                    have g3 := rowI_cell h4 (i := 3) (by omega)
                    have g4 := rowI_cell h4 (i := 4) (by omega)
                    have HN := Lib.hid h1; clear h1; have HF := Lib.hid h3; clear h3; have HB := Lib.hid h4; clear h4; have HQ := Lib.hid hq; clear hq
                    go_quiet ((go_at_call 41; exact Calls.quiet_of_same (RBetter_q _ _ _ _ _)))
                    go_wp2
                    go_roundw
                    case rel => exact ⟨j + 1, by omega, by go_num, HN.out, HQ.out, HB.out, HF.out.drewN _⟩
                    case measure => simp [intOf]; omega
                · have hb1 : ((j : Int) != y 2) = true := by simp [ht]
                  have hb2 : ((j : Int) == y 2) = false := by simp [ht]
                  have hw := HS1.out ht
                  have HT := Lib.hid ht; clear ht; have HW := Lib.hid hw; clear hw
                  go_wp2_with fail
                  go_region_held3 (fun W => W.cell? ⟨w.heap.size, 2, none⟩ = some (.int .i64 (y 2)) ∧ W.cell? ⟨q, j * 3, none⟩ = some (.int .i64 (s.wS j)) ∧ W.cell? ⟨q, j * 3 + 1, none⟩ = some (.int .i64 (s.wD j)) ∧ W.cell? ⟨q, j * 3 + 2, none⟩ = some (.int .i64 (s.wH j)))
                    (first | exact ⟨g2, r0, r1, r2⟩ | exact ⟨t3, t0, t1, t2⟩)
                    ((go_at_call 35; refine (Way_as _ j s s' _ hj6 HW.out (by exact HN.out)).mono ?_; rintro e w6 ⟨rfl, hf⟩; have t0 := cell_fr hf r0 (fun h => h); have t1 := cell_fr hf r1 (fun h => h); have t2 := cell_fr hf r2 (fun h => h); have t3 := cell_fr hf g2 (fun h => h)))
                  have h1 := NAt.keep (w := w4.drew) HN.out hf (fun h => h)
                  have hq := Fr.row (w := w4.drew) hf HQ.out (fun h => h)
                  have h4 := Fr.row (w := w4.drew) hf HB.out (fun h => h)
                  have h3 := HF.out.drew.trans hf
                  clear HN HF HB HQ hf r0 r1 r2 t0 t1 t2 g0 g2 g3 g4
                  have HN := Lib.hid h1; clear h1; have HF := Lib.hid h3; clear h3; have HB := Lib.hid h4; clear h4; have HQ := Lib.hid hq; clear hq
                  go_wp2
                  go_quiet (fail)
                  go_wp2
                  go_roundw
                  case rel => exact ⟨j + 1, by omega, by go_num, HN.out, HQ.out, HB.out, HF.out.drewN _⟩
                  case measure => simp [intOf]; omega
              · go_wp2
                go_ret
                exact ⟨rfl, HF.out⟩
          · have hs' := Nd.hearC_no hc
            have hcb : ((Nd.hearC s (y 0) (y 2) (y 3) (y 4)).2 != 0) = true := by simp [hc]
            rw [hs'] at h1
            have HN := Lib.hid h1; clear h1
            clear hs' hc
            generalize (Nd.hearC s (y 0) (y 2) (y 3) (y 4)).2 = cc at *
            go_wp2
            obtain ⟨wo, rfl⟩ : ∃ wo : World, wo = w5 := ⟨_, rfl⟩
            go_loopw [12] (fun i wr => SlRel3 s s w.heap.size q y w w1.heap.size i wr) (fun i _ => 6 - (intOf i).toNat)
            case atStart => exact ⟨0, by omega, rfl, HN.out, HQ.out, HB.out, HF.out⟩
            case round =>
              clear HN HF HB HQ hcb
              obtain ⟨j, hj, rfl, h1, hq, h4, h3⟩ := hrel
              have HN := Lib.hid h1; clear h1; have HF := Lib.hid h3; clear h3; have HB := Lib.hid h4; clear h4; have HQ := Lib.hid hq; clear hq
              by_cases hj6 : j < 6
              · have hji : (j : Int) < 6 := by omega
                have r0 := HQ.out.c0 hj6
                have r1 := HQ.out.c1 hj6
                have r2 := HQ.out.c2 hj6
                go_wp2_with fail
                go_region_held3 (fun W => W.cell? ⟨q, j * 3, none⟩ = some (.int .i64 (s.wS j)) ∧ W.cell? ⟨q, j * 3 + 1, none⟩ = some (.int .i64 (s.wD j)) ∧ W.cell? ⟨q, j * 3 + 2, none⟩ = some (.int .i64 (s.wH j)))
                  (first | exact ⟨r0, r1, r2⟩ | exact ⟨t0, t1, t2⟩)
                  ((go_at_call 35; refine (Way_in _ j s _ hj6 (by exact HN.out)).mono ?_; rintro e w6 ⟨rfl, hf⟩; have t0 := cell_fr hf r0 (fun h => h); have t1 := cell_fr hf r1 (fun h => h); have t2 := cell_fr hf r2 (fun h => h)))
                have h1 := NAt.keep (w := wr.drew) HN.out hf (fun h => h)
                have hq := Fr.row (w := wr.drew) hf HQ.out (fun h => h)
                have h4 := Fr.row (w := wr.drew) hf HB.out (fun h => h)
                have h3 := HF.out.drew.trans hf
                clear HN HF HB HQ hf r0 r1 r2 t0 t1 t2
                have HN := Lib.hid h1; clear h1; have HF := Lib.hid h3; clear h3; have HB := Lib.hid h4; clear h4; have HQ := Lib.hid hq; clear hq
                go_wp2
                go_roundw
                case rel => exact ⟨j + 1, by omega, by go_num, HN.out, HQ.out, HB.out, HF.out⟩
                case measure => simp [intOf]; omega
              · go_wp2
                go_ret
                exact ⟨rfl, HF.out⟩

set_option maxRecDepth 100000 in
set_option maxHeartbeats 2000000 in
theorem NodeStale_early (me : Int) (a0 : Option Addr) (n c : Nat) (y : Nat → Int) (w : World) (h : ¬ (0 ≤ me ∧ me < 6) ∨ ((0 ≤ me ∧ me < 6) ∧ 200 < n)) :
    Calls Try.prog 9 #[.int .i64 me, .slice a0 n c, .agg #[.int .i64 (y 0), .int .i64 (y 1), .int .i64 (y 2), .int .i64 (y 3), .int .i64 (y 4)]] w (TrueFr w) := by
  rcases h with h | ⟨hm, h⟩
  · have H := Lib.hid h; clear h
    go_enter Try.func9, Try.ntmps9
    go_wp2_with fail
    refine (nodeBegun_true _).mono ?_
    rintro e w1 ⟨rfl, hF⟩
    have hF := ((Fr.refl NoB w).alloc _).trans hF
    have HF := Lib.hid hF; clear hF
    go_wp2_with fail
    refine (New_no me _ H.out).mono ?_
    rintro e w2 ⟨rfl, rfl⟩
    go_wp2
    go_ret
    exact ⟨rfl, HF.out⟩
  · obtain ⟨m, rfl⟩ := Int.eq_ofNat_of_zero_le hm.1
    go_enter Try.func9, Try.ntmps9
    go_wp2_with fail
    refine (nodeBegun_true _).mono ?_
    rintro e w1 ⟨rfl, hF⟩
    have hF := ((Fr.refl NoB w).alloc _).trans hF
    have HF := Lib.hid hF; clear hF
    go_wp2_with fail
    refine (New_yes m _ (by omega)).mono ?_
    rintro e w2 ⟨rfl, _, hF⟩
    have hF := HF.out.trans hF
    clear HF
    have HF := Lib.hid hF; clear hF
    go_wp2
    go_ret
    exact ⟨rfl, HF.out⟩

theorem NodeStale_all (me : Int) (a1 : Option Addr) (n1 c1 : Nat) (X1 : Nat → Int) (y : Nat → Int) (w : World) (hX : Rd w a1 (n1 * 7) X1) :
    Calls Try.prog 9 #[.int .i64 me, .slice a1 n1 c1, .agg #[.int .i64 (y 0), .int .i64 (y 1), .int .i64 (y 2), .int .i64 (y 3), .int .i64 (y 4)]] w (TrueFr w) := by
  by_cases hm : 0 ≤ me ∧ me < 6
  · by_cases hn : 200 < n1
    · exact NodeStale_early me a1 n1 c1 y w (.inr ⟨hm, hn⟩)
    · obtain ⟨m, rfl⟩ := Int.eq_ofNat_of_zero_le hm.1
      exact NodeStale_main m a1 n1 c1 X1 y w (by omega) (by omega) hX
  · exact NodeStale_early me a1 n1 c1 y w (.inl hm)
end Go.Proofs.Ytdpgbgapelgomaa
