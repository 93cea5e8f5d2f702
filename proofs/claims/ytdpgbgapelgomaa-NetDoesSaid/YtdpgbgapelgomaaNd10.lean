/- Walks over handpostref: Mind.Tell, Way; NewMind; SameNews. -/
import Derived.Test.YtdpgbgapelgomaaNd7
import Derived.Test.YtdpgbgapelgomaaNd9
import Derived.Test.YtdpgbgapelgomaaNd6
namespace Go.Proofs.Ytdpgbgapelgomaa
open Go.RowKit Go.Deep

set_option maxHeartbeats 1000000 in
theorem MWay_any (b : Nat) (k : Int) (s : Nd.NS) (w : World) (hn : NAt w b 68 s) :
    Calls Try.prog 38 #[.pointer (some ⟨b, 0, none⟩), .int .i64 k] w (WayFr (Nd.wayAt s k) w) := by
  by_cases h : 0 ≤ k ∧ k < 6
  · obtain ⟨x, rfl⟩ := Int.eq_ofNat_of_zero_le h.1
    have hx : x < 6 := by omega
    have hw : Nd.wayAt s (x : Int) = Nd.wayOf s x := by rw [Nd.wayAt, if_pos h, Int.toNat_natCast]
    have c0 := hn.wS hx
    have c1 := hn.wD hx
    have c2 := hn.wH hx
    have hl := hn.lt
    clear hn h
    have HW := Lib.hid hw; clear hw
    go_enter Try.func38, Try.ntmps38
    go_wp2_with fail
    refine (RNode_yes _ _ (by omega) (by omega)).mono ?_; rintro e w' ⟨rfl, rfl⟩
    go_wp2
    refine bodyPost_ret (v := way3 (Nd.wayOf s x)) ?_ rfl ⟨by rw [HW.out], (Fr.refl _ _).alloc _⟩
    simp [results, Try.results38, go_sem, way3, Nd.wayOf]
  · have hw : Nd.wayAt s k = Nd.noWay := by rw [Nd.wayAt, if_neg h]
    clear hn
    have HW := Lib.hid hw; clear hw; have H := Lib.hid h; clear h
    go_enter Try.func38, Try.ntmps38
    go_wp2_with fail
    refine (RNode_no _ _ H.out).mono ?_; rintro e w' ⟨rfl, rfl⟩
    go_wp2
    refine bodyPost_ret (v := way3 Nd.noWay) ?_ rfl ⟨by rw [HW.out], (Fr.refl _ _).alloc _⟩
    simp [results, Try.results38, go_sem, way3, Nd.noWay]

set_option maxRecDepth 100000 in
set_option maxHeartbeats 2000000 in
theorem MTell_any (b : Nat) (who : Int) (s : Nd.NS) (w : World) (hn : NAt w b 68 s) :
    Calls Try.prog 37 #[.pointer (some ⟨b, 0, none⟩), .int .i64 who] w (TellPost s who w) := by
  have HN := Lib.hid hn; clear hn
  go_enter Try.func37, Try.ntmps37
  go_wp2
  go_loopw [5, 6] (fun v i wr => TlRel s who w v i wr) (fun _ i _ => 6 - (intOf i).toNat)
  case atStart => exact ⟨0, by omega, rfl, World.ownsRow_nil _ _ _ _, Fr.refl _ _⟩
  case round =>
    obtain ⟨k, hk, rfl, ho, hf⟩ := hrel
    have HO := Lib.hid ho; clear ho; have HF := Lib.hid hf; clear hf
    by_cases hk6 : k < 6
    · have hkb : decide ((k : Int) < 6) = true := by simp; omega
      have hst := Nd.tellL_succ s who k
      have HST := Lib.hid hst; clear hst
      go_upto_region 5 with fail
      have hn1 := HN.out.keep HF.out (fun h => h)
      have c0 := hn1.me
      have b0 := hn1.wS hk6
      have b1 := hn1.wD hk6
      have hki : (k : Int) < 6 := by omega
      clear hn1
      have hlb : b < wr.heap.size := by have := HN.out.lt; have := HF.out.size; omega
      have key : ∀ (o : Obj) (W : World), Fr (fun i => u5.ownBlock = some i) ((wr.alloc o).drew) W → W.cell? ⟨b, 0, none⟩ = some (.int .i64 s.me) ∧ W.cell? ⟨b, 79 + k * 3, none⟩ = some (.int .i64 (s.wS k)) ∧ W.cell? ⟨b, 79 + k * 3 + 1, none⟩ = some (.int .i64 (s.wD k)) := by
        intro o W h
        have hb := HN.out.lt
        have hv := World.ownsRow.lt HO.out
        have hF : Fr (fun i => u5.ownBlock = some i) wr W := ((Fr.refl _ wr).alloc o).drew.trans h
        have n1 : ¬ u5.ownBlock = some b := fun e => by have := (hv _ e).1; omega
        exact ⟨cell_fr hF c0 n1, cell_fr hF b0 n1, cell_fr hF b1 n1⟩
      have KEY := Lib.hid key; clear key
      go_region_held3 (fun W => W.cell? ⟨b, 0, none⟩ = some (.int .i64 s.me) ∧ W.cell? ⟨b, 79 + k * 3, none⟩ = some (.int .i64 (s.wS k)) ∧ W.cell? ⟨b, 79 + k * 3 + 1, none⟩ = some (.int .i64 (s.wD k)))
        (first | exact ⟨c0, b0, b1⟩ | exact KEY.out _ _ h2 | go_keep)
        ((refine step_app (by rfl) (.tmp 11) (.tmp 33) 52 49 5 40 (.agg #[.int .i64 0, .int .i64 0, .int .i64 0, .int .i64 0, .int .i64 0]) (by rfl) Try.underlying52 Try.info49 rfl (by omega) w.heap.size u5 k _ (by rfl) (World.ownsRow.drew (World.ownsRow.alloc HO.out _)) ⟨wr.heap.size, 0, none⟩ 1 1 [.int .i64 s.me, .int .i64 who, .int .i64 k, .int .i64 (s.wS k), .int .i64 (s.wD k)] (by rfl) (by rfl) (World.news_of_block (cs := #[.int .i64 s.me, .int .i64 who, .int .i64 k, .int .i64 (s.wS k), .int .i64 (s.wD k)]) (t := 49) (fr := (0, 0)) (heap_alloc_new wr _)) (by simp [Value.oneCell']) (by omega) (by omega) (by omega) (by have := HF.out.size; simp; omega) ?_; intro v' w2 h1 h2))
      have r2 : Fr NoB w w2 := ((HF.out.alloc _).drew).ownB (World.ownsRow.drew (World.ownsRow.alloc HO.out _)) (Nat.le_refl _) h2
      clear h2 b0 b1 c0
      have H1 := Lib.hid h1; clear h1; have R2 := Lib.hid r2; clear r2
      go_wp2
      go_roundw
      case rel => exact ⟨k + 1, by omega, by go_num, by rw [HST.out]; unfold SlN; rw [List.map_append]; exact H1.out, R2.out⟩
      case measure => simp [intOf]; omega
    · obtain rfl : k = 6 := by omega
      go_wp2
      go_ret
      exact ⟨_, rfl, HO.out, HF.out⟩

theorem zcM : Try.zeroCells68 = Array.replicate 109 (.int .i64 0) := by kernel_rfl
def NmRel (me : Nat) (w : World) (i : Value) (wr : World) : Prop := ∃ k : Nat, k ≤ 6 ∧ i = .int .i64 k ∧ NAt wr w.heap.size 68 (Nd.newK me k) ∧ Fr NoB w wr
def NmRelI (me k : Nat) (w : World) (i : Value) (wr : World) : Prop := ∃ j : Nat, j ≤ 6 ∧ i = .int .i64 j ∧ NAt wr w.heap.size 68 (Nd.forgetK (Nd.newW me k) k j) ∧ Fr NoB w wr

set_option maxRecDepth 100000 in
set_option maxHeartbeats 4000000 in
theorem NewMind_any (me : Nat) (w : World) (h : me < 6) : Calls Try.prog 30 #[.int .i64 me] w (NewNPost me 68 w) := by
  go_enter Try.func30, Try.ntmps30
  go_wp2
  refine wp_name fun w1 hw1 => ?_
  have hf1 : Fr NoB w w1 := by rw [hw1]; exact (Fr.refl _ w).alloc _
  have hn1 : NAt w1 w.heap.size 68 (Nd.newK me 0) := by
    rw [hw1, zcM]
    exact zeros109 w me _
  clear hw1
  have HF1 := Lib.hid hf1; clear hf1; have HN1 := Lib.hid hn1; clear hn1
  go_loopw [4] (fun i wr => NmRel me w i wr) (fun i _ => 6 - (intOf i).toNat)
  case atStart => exact ⟨0, by omega, rfl, HN1.out, HF1.out⟩
  case round =>
    clear HN1 HF1
    obtain ⟨k, hk, rfl, hn, hf⟩ := hrel
    have hs := hf.size
    have HF := Lib.hid hf; clear hf; have HS := Lib.hid hs; clear hs
    by_cases hk6 : k < 6
    · have hkb : decide ((k : Int) < 6) = true := by simp; omega
      have g0 := hn.wS hk6
      have g1 := hn.wD hk6
      have g2 := hn.wH hk6
      have e0 := hn.bS hk6
      have e1 := hn.bD hk6
      have f0 := hn.fz (79 + k * 3)
      have f1 := hn.fz (79 + k * 3 + 1)
      have f2 := hn.fz (79 + k * 3 + 2)
      have f3 := hn.fz (97 + k * 2)
      have f4 := hn.fz (97 + k * 2 + 1)
      have HN := Lib.hid hn; clear hn
      go_wp2
      refine wp_name fun w2 hw2 => ?_
      have hn2 : NAt w2 w.heap.size 68 (Nd.newW me k) := by rw [hw2]; exact (HN.out.setW hk6 0 200 (-1)).setB hk6 0 200
      have hf2 : Fr NoB w w2 := by rw [hw2]; exact ((((HF.out.setNew (Nat.le_refl _) _ _).setNew (Nat.le_refl _) _ _).setNew (Nat.le_refl _) _ _).setNew (Nat.le_refl _) _ _).setNew (Nat.le_refl _) _ _
      clear hw2 g0 g1 g2 e0 e1 f0 f1 f2 f3 f4 HN HF
      have HN := Lib.hid hn2; clear hn2; have HF := Lib.hid hf2; clear hf2
      go_loopw [5] (fun i wr => NmRelI me k w i wr) (fun i _ => 6 - (intOf i).toNat)
      case atStart => exact ⟨0, by omega, rfl, by rw [Nd.forgetK_zero]; exact HN.out, HF.out⟩
      case round =>
        clear HN HF
        obtain ⟨j, hj, rfl, hn, hf⟩ := hrel
        have HN := Lib.hid hn; clear hn; have HF := Lib.hid hf; clear hf
        by_cases hj6 : j < 6
        · have c1 := HN.out.hS hk6 hj6
          have c2 := HN.out.hD hk6 hj6
          have f1 := HN.out.fz (7 + k * 12 + j * 2)
          have f2 := HN.out.fz (7 + k * 12 + j * 2 + 1)
          go_wp2
          go_roundw
          case rel => exact ⟨j + 1, by omega, by go_num, by rw [Nd.forgetK_succ]; exact HN.out.setH hk6 hj6 0 200, (HF.out.setNew (Nat.le_refl _) _ _).setNew (Nat.le_refl _) _ _⟩
          case measure => simp [intOf]; omega
        · obtain rfl : j = 6 := by omega
          go_wp2
          go_roundw
          case rel => exact ⟨k + 1, by omega, by go_num, by rw [Nd.newK_succ]; exact HN.out, HF.out⟩
          case measure => simp [intOf]; omega
    · obtain rfl : k = 6 := by omega
      have g0 := hn.wS h
      have g1 := hn.wD h
      have g2 := hn.wH h
      have e0 := hn.bS h
      have e1 := hn.bD h
      have f0 := hn.fz (79 + me * 3)
      have f1 := hn.fz (79 + me * 3 + 1)
      have f2 := hn.fz (79 + me * 3 + 2)
      have f3 := hn.fz (97 + me * 2)
      have f4 := hn.fz (97 + me * 2 + 1)
      have HN := Lib.hid hn; clear hn
      go_wp2
      go_ret
      exact ⟨rfl, by rw [← Nd.fresh_ref]; exact (HN.out.setW h 0 0 me).setB h 0 0, ((((HF.out.setNew (Nat.le_refl _) _ _).setNew (Nat.le_refl _) _ _).setNew (Nat.le_refl _) _ _).setNew (Nat.le_refl _) _ _).setNew (Nat.le_refl _) _ _⟩

def SnRel (n : Nat) (w : World) (i : Value) (wr : World) : Prop := ∃ k : Nat, k ≤ n ∧ i = .int .i64 k ∧ ∃ j, wr = w.drewN j
def TrueDrew (w : World) (e : Ending) (w' : World) : Prop := e = .returned (.bool true) ∧ ∃ j, w' = w.drewN j
set_option maxRecDepth 100000 in
set_option maxHeartbeats 2000000 in
theorem SameNews_eq (a b : Option Addr) (n c d : Nat) (X : Nat → Int) (w : World) (hn : n ≤ 2147483648) (ha : Rd w a (n * 5) X) (hb : Rd w b (n * 5) X) :
    Calls Try.prog 36 #[.slice a n c, .slice b n d] w (TrueDrew w) := by
  have hb1 : ((n : Int) != (n : Int)) = false := by simp
  have HA := Lib.hid ha; clear ha; have HB := Lib.hid hb; clear hb
  go_enter Try.func36, Try.ntmps36
  go_wp2
  clear hb1
  go_loopw [5] (fun i wr => SnRel n w i wr) (fun i _ => n - (intOf i).toNat)
  case atStart => exact ⟨0, by omega, rfl, 0, rfl⟩
  case round =>
    obtain ⟨k, hk, rfl, jd, rfl⟩ := hrel
    by_cases hkn : k < n
    · obtain ⟨b1, o1, rfl, c1⟩ := HA.out (k * 5) (by omega)
      obtain ⟨b2, o2, e2, c2⟩ := HA.out (k * 5 + 1) (by omega)
      obtain ⟨b3, o3, e3, c3⟩ := HA.out (k * 5 + 2) (by omega)
      obtain ⟨b4, o4, e4, c4⟩ := HA.out (k * 5 + 3) (by omega)
      obtain ⟨b5, o5, e5, c5⟩ := HA.out (k * 5 + 4) (by omega)
      cases e2; cases e3; cases e4; cases e5
      obtain ⟨d1, p1, rfl, x1⟩ := HB.out (k * 5) (by omega)
      obtain ⟨d2, p2, e2, x2⟩ := HB.out (k * 5 + 1) (by omega)
      obtain ⟨d3, p3, e3, x3⟩ := HB.out (k * 5 + 2) (by omega)
      obtain ⟨d4, p4, e4, x4⟩ := HB.out (k * 5 + 3) (by omega)
      obtain ⟨d5, p5, e5, x5⟩ := HB.out (k * 5 + 4) (by omega)
      cases e2; cases e3; cases e4; cases e5
      rw [← Nat.add_assoc] at c2 c3 c4 c5 x2 x3 x4 x5
      generalize X (k * 5) = y1 at *
      generalize X (k * 5 + 1) = y2 at *
      generalize X (k * 5 + 2) = y3 at *
      generalize X (k * 5 + 3) = y4 at *
      generalize X (k * 5 + 4) = y5 at *
      go_wp2
      go_quiet (fail)
      go_wp2
      go_roundw
      case rel => exact ⟨k + 1, by omega, by go_num, _, rfl⟩
      case measure => simp [intOf]; omega
    · go_wp2
      go_ret
      exact ⟨rfl, _, rfl⟩
end Go.Proofs.Ytdpgbgapelgomaa
