/- Walks over package node: marks, forget, own; over handpostref: Better. -/
import Derived.Test.YtdpgbgapelgomaaKit2
import Derived.Test.YtdpgbgapelgomaaNdMath
namespace Go.Proofs.Ytdpgbgapelgomaa
open Go.RowKit Go.Deep

/-- A node's state in a block of 109 cells. -/
def NAt (w : World) (b : Nat) (t : TypeId) (s : Nd.NS) : Prop := w.rowIs b t 109 (I (Nd.flat s))
section
variable {w : World} {b : Nat} {t : TypeId} {s : Nd.NS} (h : NAt w b t s)
include h
theorem NAt.me : w.cell? ⟨b, 0, none⟩ = some (.int .i64 s.me) := rowI_cell h (i := 0) (by omega)
theorem NAt.cost {k : Nat} (hk : k < 6) : w.cell? ⟨b, 1 + k, none⟩ = some (.int .i64 (s.cost k)) := by
  have := rowI_cell h (i := 1 + k) (by omega); rw [Nd.flat_cost s hk] at this; exact this
theorem NAt.hS {i k : Nat} (hi : i < 6) (hk : k < 6) : w.cell? ⟨b, 7 + i * 12 + k * 2, none⟩ = some (.int .i64 (s.hS i k)) := by
  have := rowI_cell h (i := 7 + i * 12 + k * 2) (by omega); rw [Nd.flat_hS s hi hk] at this; exact this
theorem NAt.hD {i k : Nat} (hi : i < 6) (hk : k < 6) : w.cell? ⟨b, 7 + i * 12 + k * 2 + 1, none⟩ = some (.int .i64 (s.hD i k)) := by
  have := rowI_cell h (i := 7 + i * 12 + k * 2 + 1) (by omega); rw [Nd.flat_hD s hi hk] at this; exact this
theorem NAt.wS {k : Nat} (hk : k < 6) : w.cell? ⟨b, 79 + k * 3, none⟩ = some (.int .i64 (s.wS k)) := by
  have := rowI_cell h (i := 79 + k * 3) (by omega); rw [Nd.flat_wS s hk] at this; exact this
theorem NAt.wD {k : Nat} (hk : k < 6) : w.cell? ⟨b, 79 + k * 3 + 1, none⟩ = some (.int .i64 (s.wD k)) := by
  have := rowI_cell h (i := 79 + k * 3 + 1) (by omega); rw [Nd.flat_wD s hk] at this; exact this
theorem NAt.wH {k : Nat} (hk : k < 6) : w.cell? ⟨b, 79 + k * 3 + 2, none⟩ = some (.int .i64 (s.wH k)) := by
  have := rowI_cell h (i := 79 + k * 3 + 2) (by omega); rw [Nd.flat_wH s hk] at this; exact this
theorem NAt.bS {k : Nat} (hk : k < 6) : w.cell? ⟨b, 97 + k * 2, none⟩ = some (.int .i64 (s.bS k)) := by
  have := rowI_cell h (i := 97 + k * 2) (by omega); rw [Nd.flat_bS s hk] at this; exact this
theorem NAt.bD {k : Nat} (hk : k < 6) : w.cell? ⟨b, 97 + k * 2 + 1, none⟩ = some (.int .i64 (s.bD k)) := by
  have := rowI_cell h (i := 97 + k * 2 + 1) (by omega); rw [Nd.flat_bD s hk] at this; exact this
theorem NAt.set {s' : Nd.NS} (i : Nat) (v : Int) (e : ∀ j, j < 109 → Nd.flat s' j = if j = i then v else Nd.flat s j) : NAt (w.setCell ⟨b, i, none⟩ (.int .i64 v)) b t s' := rowI_set h i v e
theorem NAt.lt : b < w.heap.size := World.rowIs.lt h
theorem NAt.fz (i : Nat) : w.frozen? ⟨b, i, none⟩ = false := World.rowIs.frozen h i
theorem NAt.keep {S : Nat → Prop} {w' : World} (hf : Fr S w w') (hb : ¬ S b) : NAt w' b t s := hf.row h hb
theorem NAt.alloc (o : Obj) : NAt (w.alloc o) b t s := World.rowIs.alloc h o
end


set_option maxHeartbeats 400000 in
theorem better_any (a b c d : Int) (w : World) :
    Calls Try.prog 68 #[.agg #[.int .i64 a, .int .i64 b], .agg #[.int .i64 c, .int .i64 d]] w (BoolFr (Nd.betB a b c d) w) := by
  by_cases h1 : c < a
  · have hb : Nd.betB a b c d = true := by rw [Nd.betB_iff]; omega
    have HB := Lib.hid hb; clear hb
    go_enter Try.func68, Try.ntmps68
    go_wp2
    go_ret
    exact ⟨ret_bool HB.out.symm, ((Fr.refl _ _).alloc _).alloc _⟩
  · by_cases h2 : a = c
    · subst h2
      have hb : Nd.betB a b a d = decide (b < d) := by unfold Nd.betB; exact decide_eq_decide.2 (by omega)
      have HB := Lib.hid hb; clear hb
      go_enter Try.func68, Try.ntmps68
      go_wp2
      go_ret
      exact ⟨ret_bool HB.out.symm, ((Fr.refl _ _).alloc _).alloc _⟩
    · have hb : Nd.betB a b c d = false := by rw [Nd.betB_no]; omega
      have HB := Lib.hid hb; clear hb
      have h3 : (a == c) = false := by simpa using h2
      clear h2
      go_enter Try.func68, Try.ntmps68
      go_wp2
      go_ret
      exact ⟨ret_bool HB.out.symm, ((Fr.refl _ _).alloc _).alloc _⟩

set_option maxHeartbeats 400000 in
theorem Better_any (a b c d : Int) (w : World) :
    Calls Try.prog 40 #[.int .i64 a, .int .i64 b, .int .i64 c, .int .i64 d] w (BoolFr (Nd.betB a b c d) w) := by
  go_enter Try.func40, Try.ntmps40
  go_wp2_with fail
  refine (better_any a b c d _).mono ?_
  rintro e w1 ⟨rfl, hF⟩
  have HF := Lib.hid hF; clear hF
  go_wp2
  go_ret
  exact ⟨rfl, HF.out⟩

set_option maxHeartbeats 400000 in
theorem RBetter_any (a b c d : Int) (w : World) :
    Calls Try.prog 41 #[.int .i64 a, .int .i64 b, .int .i64 c, .int .i64 d] w fun e w' => e = .returned (.bool (Nd.betB a b c d)) ∧ w = w' := by
  by_cases h2 : a = c
  · subst h2
    have hb : Nd.betB a b a d = decide (b < d) := by unfold Nd.betB; exact decide_eq_decide.2 (by omega)
    have HB := Lib.hid hb; clear hb
    go_enter Try.func41, Try.ntmps41
    go_wp2
    go_ret
    exact ⟨ret_bool HB.out.symm, rfl⟩
  · have hb : Nd.betB a b c d = decide (c < a) := by unfold Nd.betB; exact decide_eq_decide.2 (by omega)
    have HB := Lib.hid hb; clear hb
    have h3 : (a != c) = true := by simpa using h2
    clear h2
    go_enter Try.func41, Try.ntmps41
    go_wp2
    go_ret
    exact ⟨ret_bool HB.out.symm, rfl⟩

theorem NAt.setH {w : World} {b : Nat} {t : TypeId} {s : Nd.NS} (h : NAt w b t s) {i k : Nat} (hi : i < 6) (hk : k < 6) (q d : Int) :
    NAt ((w.setCell ⟨b, 7 + i * 12 + k * 2, none⟩ (.int .i64 q)).setCell ⟨b, 7 + i * 12 + k * 2 + 1, none⟩ (.int .i64 d)) b t { s with hS := Nd.up2 s.hS i k q, hD := Nd.up2 s.hD i k d } :=
  NAt.set (s := { s with hS := Nd.up2 s.hS i k q }) (NAt.set h _ q (Nd.set_hS s hi hk q)) _ d (Nd.set_hD { s with hS := Nd.up2 s.hS i k q } hi hk d)
theorem NAt.setB {w : World} {b : Nat} {t : TypeId} {s : Nd.NS} (h : NAt w b t s) {k : Nat} (hk : k < 6) (q d : Int) :
    NAt ((w.setCell ⟨b, 97 + k * 2, none⟩ (.int .i64 q)).setCell ⟨b, 97 + k * 2 + 1, none⟩ (.int .i64 d)) b t { s with bS := Nd.up s.bS k q, bD := Nd.up s.bD k d } :=
  NAt.set (s := { s with bS := Nd.up s.bS k q }) (NAt.set h _ q (fun j _ => Nd.set_bS s hk q j)) _ d (fun j _ => Nd.set_bD { s with bS := Nd.up s.bS k q } hk d j)
theorem NAt.setW {w : World} {b : Nat} {t : TypeId} {s : Nd.NS} (h : NAt w b t s) {k : Nat} (hk : k < 6) (q d p : Int) :
    NAt (((w.setCell ⟨b, 79 + k * 3, none⟩ (.int .i64 q)).setCell ⟨b, 79 + k * 3 + 1, none⟩ (.int .i64 d)).setCell ⟨b, 79 + k * 3 + 2, none⟩ (.int .i64 p)) b t { s with wS := Nd.up s.wS k q, wD := Nd.up s.wD k d, wH := Nd.up s.wH k p } :=
  NAt.set (s := { s with wS := Nd.up s.wS k q, wD := Nd.up s.wD k d }) (NAt.set (s := { s with wS := Nd.up s.wS k q }) (NAt.set h _ q (fun j _ => Nd.set_wS s hk q j)) _ d (fun j _ => Nd.set_wD { s with wS := Nd.up s.wS k q } hk d j)) _ p (fun j _ => Nd.set_wH { s with wS := Nd.up s.wS k q, wD := Nd.up s.wD k d } hk p j)
theorem NAt.setC {w : World} {b : Nat} {t : TypeId} {s : Nd.NS} (h : NAt w b t s) {k : Nat} (hk : k < 6) (v : Int) : NAt (w.setCell ⟨b, 1 + k, none⟩ (.int .i64 v)) b t { s with cost := Nd.up s.cost k v } :=
  NAt.set h _ v (fun j _ => Nd.set_cost s hk v j)

def NilFr (b : Nat) (t : TypeId) (s : Nd.NS) (w : World) (e : Ending) (w' : World) : Prop := e = .returned (.tuple #[]) ∧ NAt w' b t s ∧ Fr (OneB b) w w'
def FgRel (b : Nat) (s : Nd.NS) (who : Nat) (w : World) (i : Value) (wr : World) : Prop := ∃ k : Nat, k ≤ 6 ∧ i = .int .i64 k ∧ NAt wr b 110 (Nd.forgetK s who k) ∧ Fr (OneB b) w wr

set_option maxHeartbeats 400000 in
theorem forget_any (b who : Nat) (s : Nd.NS) (w : World) (hw : who < 6) (hn : NAt w b 110 s) :
    Calls Try.prog 61 #[.pointer (some ⟨b, 0, none⟩), .int .i64 who] w (NilFr b 110 (Nd.forget s who) w) := by
  have HN := Lib.hid hn; clear hn
  go_enter Try.func61, Try.ntmps61
  go_wp2
  go_loopw [5] (fun i wr => FgRel b s who w i wr) (fun i _ => 6 - (intOf i).toNat)
  case atStart => exact ⟨0, by omega, rfl, by rw [Nd.forgetK_zero]; exact HN.out, Fr.refl _ _⟩
  case round =>
    clear HN
    obtain ⟨k, hk, rfl, hn, hf⟩ := hrel
    have HN := Lib.hid hn; clear hn
    have HF := Lib.hid hf; clear hf
    by_cases hk6 : k < 6
    · have c1 := HN.out.hS hw hk6
      have c2 := HN.out.hD hw hk6
      have f1 := HN.out.fz (7 + who * 12 + k * 2)
      have f2 := HN.out.fz (7 + who * 12 + k * 2 + 1)
      go_wp2
      go_roundw
      case rel => exact ⟨k + 1, by omega, by go_num, by rw [Nd.forgetK_succ]; exact HN.out.setH hw hk6 0 200, (HF.out.set1 _ _).set1 _ _⟩
      case measure => simp [intOf]; omega
    · obtain rfl : k = 6 := by omega
      go_wp2
      refine bodyPost_end (results_none rfl _ _ _) rfl ?_
      exact ⟨rfl, HN.out, HF.out⟩

set_option maxRecDepth 100000 in
set_option maxHeartbeats 1000000 in
theorem own_any (b : Nat) (s : Nd.NS) (w : World) (hm : s.me < 6) (hn : NAt w b 110 s) :
    Calls Try.prog 62 #[.pointer (some ⟨b, 0, none⟩)] w (NilFr b 110 (Nd.own s) w) := by
  have c0 := hn.me
  have c1 := hn.wS hm
  have c2 := hn.wD hm
  have c3 := hn.wH hm
  have f1 := hn.fz (79 + s.me * 3 + 1)
  have f2 := hn.fz (79 + s.me * 3 + 2)
  have HN := Lib.hid hn; clear hn
  go_enter Try.func62, Try.ntmps62
  go_wp2
  go_quiet (fail)
  go_wp2
  have hn1 : NAt (((w.drewN nq).setCell ⟨b, 79 + s.me * 3 + 1, none⟩ (.int .i64 0)).setCell ⟨b, 79 + s.me * 3 + 2, none⟩ (.int .i64 s.me)) b 110 { s with wD := Nd.up s.wD s.me 0, wH := Nd.up s.wH s.me s.me } :=
    NAt.set (s := { s with wD := Nd.up s.wD s.me 0 }) (NAt.set (w := w.drewN nq) HN.out _ 0 (fun j _ => Nd.set_wD s hm 0 j)) _ s.me (fun j _ => Nd.set_wH { s with wD := Nd.up s.wD s.me 0 } hm s.me j)
  have hf1 : Fr (OneB b) w (((w.drewN nq).setCell ⟨b, 79 + s.me * 3 + 1, none⟩ (.int .i64 0)).setCell ⟨b, 79 + s.me * 3 + 2, none⟩ (.int .i64 s.me)) := (((Fr.refl _ _).drewN nq).set1 _ _).set1 _ _
  generalize ((w.drewN nq).setCell ⟨b, 79 + s.me * 3 + 1, none⟩ (.int .i64 0)).setCell ⟨b, 79 + s.me * 3 + 2, none⟩ (.int .i64 s.me) = w1 at *
  clear c0 c1 c2 c3 f1 f2 HN
  have c0 := hn1.me
  have c1 := hn1.wS hm
  have c2 := hn1.bS hm
  have c3 := hn1.bD hm
  have f1 := hn1.fz (97 + s.me * 2)
  have f2 := hn1.fz (97 + s.me * 2 + 1)
  have HN := Lib.hid hn1; clear hn1
  have HF := Lib.hid hf1; clear hf1
  have hmi : (s.me : Int) < 6 := by omega
  go_still_tail 13, (by kernel_rfl)
  go_wp2
  refine bodyPost_end (results_none rfl _ _ _) rfl ?_
  exact ⟨rfl, NAt.setB (w := w1.drew) HN.out hm (s.wS s.me) 0, (HF.out.drew.set1 _ _).set1 _ _⟩

end Go.Proofs.Ytdpgbgapelgomaa
