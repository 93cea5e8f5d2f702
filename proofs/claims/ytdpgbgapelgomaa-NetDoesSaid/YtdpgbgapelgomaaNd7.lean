/- Walks over package node: Tell. -/
import Derived.Test.YtdpgbgapelgomaaNd5
import Derived.Test.YtdpgbgapelgomaaKit3
namespace Go.Proofs.Ytdpgbgapelgomaa
open Go.RowKit Go.Deep

/-- A node's ways as one value. -/
def agg6w (f : Nat → Nd.Way) : Value := .agg #[.int .i64 (f 0).seq, .int .i64 (f 0).dist, .int .i64 (f 0).hop, .int .i64 (f 1).seq, .int .i64 (f 1).dist, .int .i64 (f 1).hop, .int .i64 (f 2).seq, .int .i64 (f 2).dist, .int .i64 (f 2).hop, .int .i64 (f 3).seq, .int .i64 (f 3).dist, .int .i64 (f 3).hop, .int .i64 (f 4).seq, .int .i64 (f 4).dist, .int .i64 (f 4).hop, .int .i64 (f 5).seq, .int .i64 (f 5).dist, .int .i64 (f 5).hop]
theorem indexW_0 (f : Nat → Nd.Way) (w : World) : (Instr.index 66 (agg6w f) (.int .i64 0)).run Try.prog w = .ok (way3 (f 0)) w := by kernel_rfl
theorem indexW_1 (f : Nat → Nd.Way) (w : World) : (Instr.index 66 (agg6w f) (.int .i64 1)).run Try.prog w = .ok (way3 (f 1)) w := by kernel_rfl
theorem indexW_2 (f : Nat → Nd.Way) (w : World) : (Instr.index 66 (agg6w f) (.int .i64 2)).run Try.prog w = .ok (way3 (f 2)) w := by kernel_rfl
theorem indexW_3 (f : Nat → Nd.Way) (w : World) : (Instr.index 66 (agg6w f) (.int .i64 3)).run Try.prog w = .ok (way3 (f 3)) w := by kernel_rfl
theorem indexW_4 (f : Nat → Nd.Way) (w : World) : (Instr.index 66 (agg6w f) (.int .i64 4)).run Try.prog w = .ok (way3 (f 4)) w := by kernel_rfl
theorem indexW_5 (f : Nat → Nd.Way) (w : World) : (Instr.index 66 (agg6w f) (.int .i64 5)).run Try.prog w = .ok (way3 (f 5)) w := by kernel_rfl
theorem indexW (n : Nat) (hn : n < 6) (f : Nat → Nd.Way) (w : World) : (Instr.index 66 (agg6w f) (.int .i64 n)).run Try.prog w = .ok (way3 (f n)) w := by
  match n, hn with
  | 0, _ => exact indexW_0 f w
  | 1, _ => exact indexW_1 f w
  | 2, _ => exact indexW_2 f w
  | 3, _ => exact indexW_3 f w
  | 4, _ => exact indexW_4 f w
  | 5, _ => exact indexW_5 f w

def waysL (s : Nd.NS) : List Value := [.int .i64 (s.wS 0), .int .i64 (s.wD 0), .int .i64 (s.wH 0), .int .i64 (s.wS 1), .int .i64 (s.wD 1), .int .i64 (s.wH 1), .int .i64 (s.wS 2), .int .i64 (s.wD 2), .int .i64 (s.wH 2), .int .i64 (s.wS 3), .int .i64 (s.wD 3), .int .i64 (s.wH 3), .int .i64 (s.wS 4), .int .i64 (s.wD 4), .int .i64 (s.wH 4), .int .i64 (s.wS 5), .int .i64 (s.wD 5), .int .i64 (s.wH 5)]
theorem NAt.ways {w : World} {b : Nat} {t : TypeId} {s : Nd.NS} (h : NAt w b t s) : w.rangeAt b 79 (waysL s) := by
  intro j v hv
  unfold waysL at hv
  match j, hv with
  | 0, hv => simp at hv; subst hv; exact h.wS (k := 0) (by omega)
  | 1, hv => simp at hv; subst hv; exact h.wD (k := 0) (by omega)
  | 2, hv => simp at hv; subst hv; exact h.wH (k := 0) (by omega)
  | 3, hv => simp at hv; subst hv; exact h.wS (k := 1) (by omega)
  | 4, hv => simp at hv; subst hv; exact h.wD (k := 1) (by omega)
  | 5, hv => simp at hv; subst hv; exact h.wH (k := 1) (by omega)
  | 6, hv => simp at hv; subst hv; exact h.wS (k := 2) (by omega)
  | 7, hv => simp at hv; subst hv; exact h.wD (k := 2) (by omega)
  | 8, hv => simp at hv; subst hv; exact h.wH (k := 2) (by omega)
  | 9, hv => simp at hv; subst hv; exact h.wS (k := 3) (by omega)
  | 10, hv => simp at hv; subst hv; exact h.wD (k := 3) (by omega)
  | 11, hv => simp at hv; subst hv; exact h.wH (k := 3) (by omega)
  | 12, hv => simp at hv; subst hv; exact h.wS (k := 4) (by omega)
  | 13, hv => simp at hv; subst hv; exact h.wD (k := 4) (by omega)
  | 14, hv => simp at hv; subst hv; exact h.wH (k := 4) (by omega)
  | 15, hv => simp at hv; subst hv; exact h.wS (k := 5) (by omega)
  | 16, hv => simp at hv; subst hv; exact h.wD (k := 5) (by omega)
  | 17, hv => simp at hv; subst hv; exact h.wH (k := 5) (by omega)
theorem Try.info49 : (Try.prog.info? 49).map (fun i => (i.zero, i.size, i.bytes)) = some (some (.agg #[.int .i64 0, .int .i64 0, .int .i64 0, .int .i64 0, .int .i64 0]), 5, 40) := by kernel_rfl
/-- A slice of n news of the call's own. -/
def SlN (w : World) (base : Nat) (v : Value) (n : Nat) (xs : List Int) : Prop := w.ownsRow base 49 5 v n (xs.map (Value.int .i64))
def TellPost (s : Nd.NS) (who : Int) (w : World) (e : Ending) (w' : World) : Prop := ∃ v, e = .returned v ∧ SlN w' w.heap.size v 6 (Nd.tellL s who 6) ∧ Fr NoB w w'
def TlRel (s : Nd.NS) (who : Int) (w : World) (v i : Value) (wr : World) : Prop :=
  ∃ k : Nat, k ≤ 6 ∧ i = .int .i64 k ∧ SlN wr w.heap.size v k (Nd.tellL s who k) ∧ Fr NoB w wr

set_option maxRecDepth 100000 in
set_option maxHeartbeats 2000000 in
theorem Tell_any (b : Nat) (who : Int) (s : Nd.NS) (w : World) (hn : NAt w b 110 s) :
    Calls Try.prog 33 #[.pointer (some ⟨b, 0, none⟩), .int .i64 who] w (TellPost s who w) := by
  have HN := Lib.hid hn; clear hn
  go_enter Try.func33, Try.ntmps33
  go_wp2_with (refine wpList_load_mid rfl 66 (.tmp 10) rfl b 79 rfl (waysL s) _ (NAt.ways HN.out) Try.underlying66 rfl (by kernel_rfl) ?_)
  go_loopw [5, 12] (fun v i wr => TlRel s who w v i wr) (fun _ i _ => 6 - (intOf i).toNat)
  case atStart => exact ⟨0, by omega, rfl, World.ownsRow_nil _ _ _ _, Fr.refl _ _⟩
  case round =>
    obtain ⟨k, hk, rfl, ho, hf⟩ := hrel
    have HO := Lib.hid ho; clear ho; have HF := Lib.hid hf; clear hf
    by_cases hk6 : k < 6
    · have hkb : decide ((k : Int) < 6) = true := by simp; omega
      have hix := fun w => indexW k hk6 (Nd.wayOf s) w
      simp only [agg6w, way3, Nd.wayOf] at hix
      unfold waysL
      have hst := Nd.tellL_succ s who k
      have HST := Lib.hid hst; clear hst
      go_upto_region 5 with fail
      clear hix
      refine wp_name fun w1 hw1 => ?_
      have hf1 : Fr NoB wr w1 := by rw [hw1]; exact (Fr.refl _ wr).alloc _
      have b0 : w1.cell? ⟨wr.heap.size, 0, none⟩ = some (.int .i64 (s.wS k)) := by rw [hw1]; simp
      have b1 : w1.cell? ⟨wr.heap.size, 1, none⟩ = some (.int .i64 (s.wD k)) := by rw [hw1]; simp
      have c0 := (HN.out.keep (HF.out.trans hf1) (fun h => h)).me
      have ho1 : SlN w1 w.heap.size u5 k (Nd.tellL s who k) := own_keep HO.out hf1 (fun _ _ h => h)
      have hf2 := HF.out.trans hf1
      clear hw1 hf1
      have HO1 := Lib.hid ho1; clear ho1; have HF1 := Lib.hid hf2; clear hf2
      have hlb : b < w1.heap.size := by have := HN.out.lt; have := HF1.out.size; omega
      have hlr := World.block_lt_of_cell? w1 _ b0
      have key : ∀ (o : Obj) (W : World), Fr (fun i => u5.ownBlock = some i) ((w1.alloc o).drew) W → W.cell? ⟨b, 0, none⟩ = some (.int .i64 s.me) ∧ W.cell? ⟨wr.heap.size, 0, none⟩ = some (.int .i64 (s.wS k)) ∧ W.cell? ⟨wr.heap.size, 1, none⟩ = some (.int .i64 (s.wD k)) := by
        intro o W h
        have hb := HN.out.lt
        have hv := World.ownsRow.lt HO.out
        have hF : Fr (fun i => u5.ownBlock = some i) w1 W := ((Fr.refl _ w1).alloc o).drew.trans h
        have n1 : ¬ u5.ownBlock = some b := fun e => by have := (hv _ e).1; omega
        have n2 : ¬ u5.ownBlock = some wr.heap.size := fun e => by have := (hv _ e).2; omega
        exact ⟨cell_fr hF c0 n1, cell_fr hF b0 n2, cell_fr hF b1 n2⟩
      have KEY := Lib.hid key; clear key
      go_region_held3 (fun W => W.cell? ⟨b, 0, none⟩ = some (.int .i64 s.me) ∧ W.cell? ⟨wr.heap.size, 0, none⟩ = some (.int .i64 (s.wS k)) ∧ W.cell? ⟨wr.heap.size, 1, none⟩ = some (.int .i64 (s.wD k)))
        (first | exact ⟨c0, b0, b1⟩ | exact KEY.out _ _ h2 | go_keep)
        ((refine step_app (by rfl) (.tmp 16) (.tmp 28) 52 49 5 40 (.agg #[.int .i64 0, .int .i64 0, .int .i64 0, .int .i64 0, .int .i64 0]) (by rfl) Try.underlying52 Try.info49 rfl (by omega) w.heap.size u5 k _ (by rfl) (World.ownsRow.drew (World.ownsRow.alloc HO1.out _)) ⟨w1.heap.size, 0, none⟩ 1 1 [.int .i64 s.me, .int .i64 who, .int .i64 k, .int .i64 (s.wS k), .int .i64 (s.wD k)] (by rfl) (by rfl) (World.news_of_block (cs := #[.int .i64 s.me, .int .i64 who, .int .i64 k, .int .i64 (s.wS k), .int .i64 (s.wD k)]) (t := 49) (fr := (0, 0)) (heap_alloc_new w1 _)) (by simp [Value.oneCell']) (by omega) (by omega) (by omega) (by have := HF1.out.size; simp; omega) ?_; intro v' w2 h1 h2))
      have r2 : Fr NoB w w2 := ((HF1.out.alloc _).drew).ownB (World.ownsRow.drew (World.ownsRow.alloc HO1.out _)) (Nat.le_refl _) h2
      clear h2 b0 b1 c0
      have H1 := Lib.hid h1; clear h1; have R2 := Lib.hid r2; clear r2
      go_wp2
      go_roundw
      case rel => exact ⟨k + 1, by omega, by go_num, by rw [HST.out]; unfold SlN; rw [List.map_append]; exact H1.out, R2.out⟩
      case measure => simp [intOf]; omega
    · obtain rfl : k = 6 := by omega
      go_wp2
      go_ret
      exact ⟨_, rfl, HO.out, HF.out⟩
end Go.Proofs.Ytdpgbgapelgomaa
