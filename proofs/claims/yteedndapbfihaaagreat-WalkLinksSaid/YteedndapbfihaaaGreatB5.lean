/- Walks over package node: marks, forget, own; over handpostref: Better. -/
import Derived.Test.YteedndapbfihaaaGreatB3
import Derived.StillTailTactics
import Derived.Test.YteedndapbfihaaaGreatB4
import Derived.IntWalk
namespace Go.Proofs.YteedndapbfihaaaGreat
open Go.RowKit Go.Deep

/-- A node's state in a block of 109 cells. -/
def NAt (w : World) (b : Nat) (t : TypeId) (s : Nd.NS) : Prop := w.rowIs b t 109 (I (Nd.flat s))
section
variable {w : World} {b : Nat} {t : TypeId} {s : Nd.NS} (h : NAt w b t s)
include h
theorem NAt.me : w.cell? ⟨b, 0, none⟩ = some (.int .i64 s.me) := rowI_cell h (i := 0) (by omega)
theorem NAt.cost {k : Nat} (hk : k < 6) : w.cell? ⟨b, 1 + k, none⟩ = some (.int .i64 (s.cost k)) := by
  have := rowI_cell h (i := 1 + k) (by omega); rw [Nd.flat_cost s hk] at this; exact this
theorem NAt.hS {i k : Nat} (hi : i < 6) (hk : k < 6) : w.cell? ⟨b, 7 + i * 12 + k * 2, none⟩ = some (.int .i64 (s.hS i k)) := by
  have := rowI_cell h (i := 7 + i * 12 + k * 2) (by omega); rw [Nd.flat_hS s hi hk] at this; exact this
theorem NAt.hD {i k : Nat} (hi : i < 6) (hk : k < 6) : w.cell? ⟨b, 7 + i * 12 + k * 2 + 1, none⟩ = some (.int .i64 (s.hD i k)) := by
  have := rowI_cell h (i := 7 + i * 12 + k * 2 + 1) (by omega); rw [Nd.flat_hD s hi hk] at this; exact this
theorem NAt.wS {k : Nat} (hk : k < 6) : w.cell? ⟨b, 79 + k * 3, none⟩ = some (.int .i64 (s.wS k)) := by
  have := rowI_cell h (i := 79 + k * 3) (by omega); rw [Nd.flat_wS s hk] at this; exact this
theorem NAt.wD {k : Nat} (hk : k < 6) : w.cell? ⟨b, 79 + k * 3 + 1, none⟩ = some (.int .i64 (s.wD k)) := by
  have := rowI_cell h (i := 79 + k * 3 + 1) (by omega); rw [Nd.flat_wD s hk] at this; exact this
theorem NAt.wH {k : Nat} (hk : k < 6) : w.cell? ⟨b, 79 + k * 3 + 2, none⟩ = some (.int .i64 (s.wH k)) := by
  have := rowI_cell h (i := 79 + k * 3 + 2) (by omega); rw [Nd.flat_wH s hk] at this; exact this
theorem NAt.bS {k : Nat} (hk : k < 6) : w.cell? ⟨b, 97 + k * 2, none⟩ = some (.int .i64 (s.bS k)) := by
  have := rowI_cell h (i := 97 + k * 2) (by omega); rw [Nd.flat_bS s hk] at this; exact this
theorem NAt.bD {k : Nat} (hk : k < 6) : w.cell? ⟨b, 97 + k * 2 + 1, none⟩ = some (.int .i64 (s.bD k)) := by
  have := rowI_cell h (i := 97 + k * 2 + 1) (by omega); rw [Nd.flat_bD s hk] at this; exact this
theorem NAt.set {s' : Nd.NS} (i : Nat) (v : Int) (e : ∀ j, j < 109 → Nd.flat s' j = if j = i then v else Nd.flat s j) : NAt (w.setCell ⟨b, i, none⟩ (.int .i64 v)) b t s' := rowI_set h i v e
theorem NAt.lt : b < w.heap.size := World.rowIs.lt h
theorem NAt.fz (i : Nat) : w.frozen? ⟨b, i, none⟩ = false := World.rowIs.frozen h i
theorem NAt.keep {S : Nat → Prop} {w' : World} (hf : Fr S w w') (hb : ¬ S b) : NAt w' b t s := hf.row h hb
theorem NAt.alloc (o : Obj) : NAt (w.alloc o) b t s := World.rowIs.alloc h o
end

set_option maxHeartbeats 400000 in
theorem better_any (a b c d : Int) (w : World) :
    Calls Tryz.prog 111 #[.agg #[.int .i64 a, .int .i64 b], .agg #[.int .i64 c, .int .i64 d]] w (BoolFr (Nd.betB a b c d) w) := by
  by_cases h1 : c < a
  · have hb : Nd.betB a b c d = true := by rw [Nd.betB_iff]; omega
    have HB := Lib.hid hb; clear hb
    go_enter Tryz.func111, Tryz.ntmps111
    go_wp2
    go_ret
    exact ⟨ret_bool HB.out.symm, ((Fr.refl _ _).alloc _).alloc _⟩
  · by_cases h2 : a = c
    · subst h2
      have hb : Nd.betB a b a d = decide (b < d) := by unfold Nd.betB; exact decide_eq_decide.2 (by omega)
      have HB := Lib.hid hb; clear hb
      go_enter Tryz.func111, Tryz.ntmps111
      go_wp2
      go_ret
      exact ⟨ret_bool HB.out.symm, ((Fr.refl _ _).alloc _).alloc _⟩
    · have hb : Nd.betB a b c d = false := by rw [Nd.betB_no]; omega
      have HB := Lib.hid hb; clear hb
      have h3 : (a == c) = false := by simpa using h2
      clear h2
      go_enter Tryz.func111, Tryz.ntmps111
      go_wp2
      go_ret
      exact ⟨ret_bool HB.out.symm, ((Fr.refl _ _).alloc _).alloc _⟩

set_option maxHeartbeats 400000 in
theorem Better_any (a b c d : Int) (w : World) :
    Calls Tryz.prog 110 #[.int .i64 a, .int .i64 b, .int .i64 c, .int .i64 d] w (BoolFr (Nd.betB a b c d) w) := by
  go_enter Tryz.func110, Tryz.ntmps110
  go_wp2_with fail
  refine (better_any a b c d _).mono ?_
  rintro e w1 ⟨rfl, hF⟩
  have HF := Lib.hid hF; clear hF
  go_wp2
  go_ret
  exact ⟨rfl, HF.out⟩

set_option maxHeartbeats 400000 in
theorem RBetter_any (a b c d : Int) (w : World) :
    Calls Tryz.prog 113 #[.int .i64 a, .int .i64 b, .int .i64 c, .int .i64 d] w fun e w' => e = .returned (.bool (Nd.betB a b c d)) ∧ w = w' := by
  by_cases h2 : a = c
  · subst h2
    have hb : Nd.betB a b a d = decide (b < d) := by unfold Nd.betB; exact decide_eq_decide.2 (by omega)
    have HB := Lib.hid hb; clear hb
    go_enter Tryz.func113, Tryz.ntmps113
    go_wp2
    go_ret
    exact ⟨ret_bool HB.out.symm, rfl⟩
  · have hb : Nd.betB a b c d = decide (c < a) := by unfold Nd.betB; exact decide_eq_decide.2 (by omega)
    have HB := Lib.hid hb; clear hb
    have h3 : (a != c) = true := by simpa using h2
    clear h2
    go_enter Tryz.func113, Tryz.ntmps113
    go_wp2
    go_ret
    exact ⟨ret_bool HB.out.symm, rfl⟩

theorem NAt.setH {w : World} {b : Nat} {t : TypeId} {s : Nd.NS} (h : NAt w b t s) {i k : Nat} (hi : i < 6) (hk : k < 6) (q d : Int) :
    NAt ((w.setCell ⟨b, 7 + i * 12 + k * 2, none⟩ (.int .i64 q)).setCell ⟨b, 7 + i * 12 + k * 2 + 1, none⟩ (.int .i64 d)) b t { s with hS := Nd.up2 s.hS i k q, hD := Nd.up2 s.hD i k d } :=
  NAt.set (s := { s with hS := Nd.up2 s.hS i k q }) (NAt.set h _ q (Nd.set_hS s hi hk q)) _ d (Nd.set_hD { s with hS := Nd.up2 s.hS i k q } hi hk d)
theorem NAt.setB {w : World} {b : Nat} {t : TypeId} {s : Nd.NS} (h : NAt w b t s) {k : Nat} (hk : k < 6) (q d : Int) :
    NAt ((w.setCell ⟨b, 97 + k * 2, none⟩ (.int .i64 q)).setCell ⟨b, 97 + k * 2 + 1, none⟩ (.int .i64 d)) b t { s with bS := Nd.up s.bS k q, bD := Nd.up s.bD k d } :=
  NAt.set (s := { s with bS := Nd.up s.bS k q }) (NAt.set h _ q (fun j _ => Nd.set_bS s hk q j)) _ d (fun j _ => Nd.set_bD { s with bS := Nd.up s.bS k q } hk d j)
theorem NAt.setW {w : World} {b : Nat} {t : TypeId} {s : Nd.NS} (h : NAt w b t s) {k : Nat} (hk : k < 6) (q d p : Int) :
    NAt (((w.setCell ⟨b, 79 + k * 3, none⟩ (.int .i64 q)).setCell ⟨b, 79 + k * 3 + 1, none⟩ (.int .i64 d)).setCell ⟨b, 79 + k * 3 + 2, none⟩ (.int .i64 p)) b t { s with wS := Nd.up s.wS k q, wD := Nd.up s.wD k d, wH := Nd.up s.wH k p } :=
  NAt.set (s := { s with wS := Nd.up s.wS k q, wD := Nd.up s.wD k d }) (NAt.set (s := { s with wS := Nd.up s.wS k q }) (NAt.set h _ q (fun j _ => Nd.set_wS s hk q j)) _ d (fun j _ => Nd.set_wD { s with wS := Nd.up s.wS k q } hk d j)) _ p (fun j _ => Nd.set_wH { s with wS := Nd.up s.wS k q, wD := Nd.up s.wD k d } hk p j)
theorem NAt.setC {w : World} {b : Nat} {t : TypeId} {s : Nd.NS} (h : NAt w b t s) {k : Nat} (hk : k < 6) (v : Int) : NAt (w.setCell ⟨b, 1 + k, none⟩ (.int .i64 v)) b t { s with cost := Nd.up s.cost k v } :=
  NAt.set h _ v (fun j _ => Nd.set_cost s hk v j)

def NilFr (b : Nat) (t : TypeId) (s : Nd.NS) (w : World) (e : Ending) (w' : World) : Prop := e = .returned (.tuple #[]) ∧ NAt w' b t s ∧ Fr (OneB b) w w'
def FgRel (b : Nat) (s : Nd.NS) (who : Nat) (w : World) (i : Value) (wr : World) : Prop := ∃ k : Nat, k ≤ 6 ∧ i = .int .i64 k ∧ NAt wr b 136 (Nd.forgetK s who k) ∧ Fr (OneB b) w wr

set_option maxHeartbeats 400000 in
theorem forget_any (b who : Nat) (s : Nd.NS) (w : World) (hw : who < 6) (hn : NAt w b 136 s) :
    Calls Tryz.prog 112 #[.pointer (some ⟨b, 0, none⟩), .int .i64 who] w (NilFr b 136 (Nd.forget s who) w) := by
  have HN := Lib.hid hn; clear hn
  go_enter Tryz.func112, Tryz.ntmps112
  go_wp2
  go_loopw [5] (fun i wr => FgRel b s who w i wr) (fun i _ => 6 - (intOf i).toNat)
  case atStart => exact ⟨0, by omega, rfl, by rw [Nd.forgetK_zero]; exact HN.out, Fr.refl _ _⟩
  case round =>
    clear HN
    obtain ⟨k, hk, rfl, hn, hf⟩ := hrel
    have HN := Lib.hid hn; clear hn
    have HF := Lib.hid hf; clear hf
    by_cases hk6 : k < 6
    · have c1 := HN.out.hS hw hk6
      have c2 := HN.out.hD hw hk6
      have f1 := HN.out.fz (7 + who * 12 + k * 2)
      have f2 := HN.out.fz (7 + who * 12 + k * 2 + 1)
      go_wp2
      go_roundw
      case rel => exact ⟨k + 1, by omega, by go_num, by rw [Nd.forgetK_succ]; exact HN.out.setH hw hk6 0 200, (HF.out.set1 _ _).set1 _ _⟩
      case measure => simp [intOf]; omega
    · obtain rfl : k = 6 := by omega
      go_wp2
      refine bodyPost_end (results_none rfl _ _ _) rfl ?_
      exact ⟨rfl, HN.out, HF.out⟩

set_option maxRecDepth 100000 in
set_option maxHeartbeats 1000000 in
theorem own_any (b : Nat) (s : Nd.NS) (w : World) (hm : s.me < 6) (hn : NAt w b 136 s) :
    Calls Tryz.prog 92 #[.pointer (some ⟨b, 0, none⟩)] w (NilFr b 136 (Nd.own s) w) := by
  have c0 := hn.me
  have c1 := hn.wS hm
  have c2 := hn.wD hm
  have c3 := hn.wH hm
  have f1 := hn.fz (79 + s.me * 3 + 1)
  have f2 := hn.fz (79 + s.me * 3 + 2)
  have HN := Lib.hid hn; clear hn
  go_enter Tryz.func92, Tryz.ntmps92
  go_wp2
  go_quiet (fail)
  go_wp2
  have hn1 : NAt (((w.drewN nq).setCell ⟨b, 79 + s.me * 3 + 1, none⟩ (.int .i64 0)).setCell ⟨b, 79 + s.me * 3 + 2, none⟩ (.int .i64 s.me)) b 136 { s with wD := Nd.up s.wD s.me 0, wH := Nd.up s.wH s.me s.me } :=
    NAt.set (s := { s with wD := Nd.up s.wD s.me 0 }) (NAt.set (w := w.drewN nq) HN.out _ 0 (fun j _ => Nd.set_wD s hm 0 j)) _ s.me (fun j _ => Nd.set_wH { s with wD := Nd.up s.wD s.me 0 } hm s.me j)
  have hf1 : Fr (OneB b) w (((w.drewN nq).setCell ⟨b, 79 + s.me * 3 + 1, none⟩ (.int .i64 0)).setCell ⟨b, 79 + s.me * 3 + 2, none⟩ (.int .i64 s.me)) := (((Fr.refl _ _).drewN nq).set1 _ _).set1 _ _
  generalize ((w.drewN nq).setCell ⟨b, 79 + s.me * 3 + 1, none⟩ (.int .i64 0)).setCell ⟨b, 79 + s.me * 3 + 2, none⟩ (.int .i64 s.me) = w1 at *
  clear c0 c1 c2 c3 f1 f2 HN
  have c0 := hn1.me
  have c1 := hn1.wS hm
  have c2 := hn1.bS hm
  have c3 := hn1.bD hm
  have f1 := hn1.fz (97 + s.me * 2)
  have f2 := hn1.fz (97 + s.me * 2 + 1)
  have HN := Lib.hid hn1; clear hn1
  have HF := Lib.hid hf1; clear hf1
  have hmi : (s.me : Int) < 6 := by omega
  go_still_tail 13, (by kernel_rfl)
  go_wp2
  refine bodyPost_end (results_none rfl _ _ _) rfl ?_
  exact ⟨rfl, NAt.setB (w := w1.drew) HN.out hm (s.wS s.me) 0, (HF.out.drew.set1 _ _).set1 _ _⟩

end Go.Proofs.YteedndapbfihaaaGreat
namespace Go.Proofs.YteedndapbfihaaaGreat
open Go.RowKit Go.Deep
set_option maxRecDepth 100000 in
set_option maxHeartbeats 1000000 in
theorem may_any (b who tn : Nat) (s : Nd.NS) (w : World) (hw : who < 6) (ht : tn < 6) (hc : 0 ≤ s.cost who ∧ s.cost who ≤ 15) (hd : 0 ≤ s.hD who tn ∧ s.hD who tn ≤ 200) (hn : NAt w b 136 s) :
    Calls Tryz.prog 109 #[.pointer (some ⟨b, 0, none⟩), .int .i64 who, .int .i64 tn] w (BoolFr (Nd.may s who tn) w) := by
  have c0 := hn.cost hw
  have c1 := hn.hS hw ht
  have c2 := hn.hD hw ht
  have c3 := hn.bS ht
  have c4 := hn.bD ht
  have hl := hn.lt
  have hwi : (who : Int) < 6 := by omega
  have hti : (tn : Int) < 6 := by omega
  clear hn
  obtain ⟨k0, k1⟩ := hc
  obtain ⟨d0, d1⟩ := hd
  by_cases g1 : 0 < s.cost who
  · by_cases g2 : s.hD who tn + s.cost who < 200
    · have hmay : Nd.may s who tn = Nd.betB (s.hS who tn) (s.hD who tn) (s.bS tn) (s.bD tn) := by simp [Nd.may, g1, g2]
      have HM := Lib.hid hmay; clear hmay
      go_enter Tryz.func109, Tryz.ntmps109
      go_wp2
      refine wp_name fun w1 hw1 => ?_
      have hf1 : Fr NoB w w1 := by rw [hw1]; exact (Fr.refl _ w).alloc _
      have b0 : w1.cell? ⟨w.heap.size, 0, none⟩ = some (.int .i64 (s.hS who tn)) := by rw [hw1]; simp
      have b1 : w1.cell? ⟨w.heap.size, 1, none⟩ = some (.int .i64 (s.hD who tn)) := by rw [hw1]; simp
      have c0 := cell_fr hf1 c0 (fun h => h)
      have c3 := cell_fr hf1 c3 (fun h => h)
      have c4 := cell_fr hf1 c4 (fun h => h)
      clear hw1
      have HF := Lib.hid hf1; clear hf1
      have hsum := IntWalk.i64_in (s.hD who tn + s.cost who) (by omega)
      (refine still_tail 27 (by kernel_rfl) (by kernel_rfl) ?_; simp only [List.take_succ_cons, List.take_zero, List.drop_succ_cons, List.drop_zero]; (iterate 27 (refine wpStill_step (fun K hK => ?_); go_simp; (with_reducible refine hK _ ?_); clear hK K)); refine wpStill_nil ?_)
      go_wp2_with fail
      refine (better_any _ _ _ _ _).mono ?_
      rintro e w2 ⟨rfl, hF⟩
      have hF1 : Fr NoB w w2 := HF.out.drew.trans hF
      clear hF HF
      have HF := Lib.hid hF1; clear hF1
      go_wp2
      go_ret
      exact ⟨ret_bool HM.out.symm, HF.out⟩
    · have hmay : Nd.may s who tn = false := by simp only [Nd.may]; rw [decide_eq_false (by omega)]; rfl
      have g3 : decide (s.hD who tn + s.cost who < 200) = false := by simpa using g2
      have HM := Lib.hid hmay; clear hmay
      clear g2
      go_enter Tryz.func109, Tryz.ntmps109
      go_wp2
      go_quiet (fail)
      go_wp2
      go_ret
      exact ⟨ret_bool HM.out.symm, ((Fr.refl _ _).alloc _).drewN _⟩
  · have hmay : Nd.may s who tn = false := by simp only [Nd.may]; rw [decide_eq_false (by omega)]; rfl
    have g3 : decide (0 < s.cost who) = false := by simpa using g1
    have HM := Lib.hid hmay; clear hmay
    clear g1
    go_enter Tryz.func109, Tryz.ntmps109
    go_wp2
    go_quiet (fail)
    go_wp2
    go_ret
    exact ⟨ret_bool HM.out.symm, ((Fr.refl _ _).alloc _).drewN _⟩
end Go.Proofs.YteedndapbfihaaaGreat
/- Walks over package node: pick, all. -/
namespace Go.Proofs.YteedndapbfihaaaGreat
open Go.RowKit Go.Deep

/-- A way in a block of three cells. -/
def wayF (x : Nd.Way) (i : Nat) : Int := if i = 0 then x.seq else if i = 1 then x.dist else x.hop
def WAt (w : World) (p : Nat) (x : Nd.Way) : Prop := w.rowIs p 47 3 (I (wayF x))
section
variable {w : World} {p : Nat} {x : Nd.Way} (h : WAt w p x)
include h
theorem WAt.c0 : w.cell? ⟨p, 0, none⟩ = some (.int .i64 x.seq) := rowI_cell h (i := 0) (by omega)
theorem WAt.c1 : w.cell? ⟨p, 1, none⟩ = some (.int .i64 x.dist) := rowI_cell h (i := 1) (by omega)
theorem WAt.c2 : w.cell? ⟨p, 2, none⟩ = some (.int .i64 x.hop) := rowI_cell h (i := 2) (by omega)
theorem WAt.fz (i : Nat) : w.frozen? ⟨p, i, none⟩ = false := World.rowIs.frozen h i
theorem WAt.set (q d r : Int) : WAt (((w.setCell ⟨p, 0, none⟩ (.int .i64 q)).setCell ⟨p, 1, none⟩ (.int .i64 d)).setCell ⟨p, 2, none⟩ (.int .i64 r)) p ⟨q, d, r⟩ :=
  rowI_set (rowI_set (rowI_set h 0 q (g := fun i => if i = 0 then q else wayF x i) (fun j _ => rfl)) 1 d (g := fun i => if i = 1 then d else if i = 0 then q else wayF x i) (fun j _ => rfl)) 2 r (fun j hj => by
    match j, hj with
    | 0, _ => rfl
    | 1, _ => rfl
    | 2, _ => rfl)
theorem WAt.keep {S : Nat → Prop} {w' : World} (hf : Fr S w w') (hb : ¬ S p) : WAt w' p x := hf.row h hb
theorem WAt.alloc (o : Obj) : WAt (w.alloc o) p x := World.rowIs.alloc h o
end
theorem WAt.new (w : World) (q d r : Int) : WAt (w.alloc (.cells #[.int .i64 q, .int .i64 d, .int .i64 r] 47)) w.heap.size ⟨q, d, r⟩ :=
  World.rowIs_alloc w _ _ (I (wayF ⟨q, d, r⟩)) (fun i hi => by
    match i, hi with
    | 0, _ => rfl
    | 1, _ => rfl
    | 2, _ => rfl)
theorem NAt.other {w : World} {b : Nat} {t : TypeId} {s : Nd.NS} (h : NAt w b t s) {p : Nat} (hp : b ≠ p) (o : Nat) (v : Value) : NAt (w.setCell ⟨p, o, none⟩ v) b t s := World.rowIs.setOther h (a := ⟨p, o, none⟩) hp v
theorem WAt.other {w : World} {b : Nat} {s : Nd.Way} (h : WAt w b s) {p : Nat} (hp : b ≠ p) (o : Nat) (v : Value) : WAt (w.setCell ⟨p, o, none⟩ v) b s := World.rowIs.setOther h (a := ⟨p, o, none⟩) hp v

def PkRel (b : Nat) (s : Nd.NS) (tn p : Nat) (w : World) (i : Value) (wr : World) : Prop :=
  ∃ k : Nat, k ≤ 6 ∧ i = .int .i64 k ∧ NAt wr b 136 s ∧ WAt wr p (Nd.choose s tn k) ∧ Fr NoB w wr

set_option maxRecDepth 100000 in
set_option maxHeartbeats 4000000 in
theorem pick_any (b tn : Nat) (s : Nd.NS) (w : World) (ok : Nd.Ok s) (ht : tn < 6) (hn : NAt w b 136 s) :
    Calls Tryz.prog 93 #[.pointer (some ⟨b, 0, none⟩), .int .i64 tn] w (NilFr b 136 (Nd.pick s tn) w) := by
  have hm := ok.me
  have c0 := hn.me
  by_cases hme : tn = s.me
  · have hb : ((tn : Int) == (s.me : Int)) = true := by simp [hme]
    have hp : Nd.pick s tn = s := by rw [Nd.pick, if_pos hme]
    have HP := Lib.hid hp; clear hp; have HN := Lib.hid hn; clear hn; have HME := Lib.hid hme; clear hme
    go_enter Tryz.func93, Tryz.ntmps93
    go_wp2
    refine bodyPost_end (results_none rfl _ _ _) rfl ?_
    exact ⟨rfl, by rw [HP.out]; exact HN.out, Fr.refl _ _⟩
  · have hb : ((tn : Int) == (s.me : Int)) = false := by simp; omega
    have hp : Nd.pick s tn = Nd.lay s tn (Nd.choose s tn 6) := by rw [Nd.pick, if_neg hme]
    have c1 := hn.bS ht
    have hl := hn.lt
    have HP := Lib.hid hp; clear hp; have HN := Lib.hid hn; clear hn; have HME := Lib.hid hme; clear hme; have HOk := Lib.hid ok; clear ok
    go_enter Tryz.func93, Tryz.ntmps93
    go_wp2
    refine wp_name fun w1 hw1 => ?_
    have hf1 : Fr NoB w w1 := by rw [hw1]; exact (Fr.refl _ w).alloc _
    have hr1 : WAt w1 w.heap.size (Nd.none s tn) := by rw [hw1]; exact WAt.new w _ _ _
    have hn1 := HN.out.keep hf1 (fun h => h)
    clear hw1 c0 c1 hb
    have HF1 := Lib.hid hf1; clear hf1; have HR1 := Lib.hid hr1; clear hr1; have HN1 := Lib.hid hn1; clear hn1
    go_loopw [22] (fun i wr => PkRel b s tn w.heap.size w i wr) (fun i _ => 6 - (intOf i).toNat)
    case atStart => exact ⟨0, by omega, rfl, HN1.out, HR1.out, HF1.out⟩
    case round =>
      clear HF1 HR1 HN1
      obtain ⟨k, hk, rfl, hn, hr, hf⟩ := hrel
      have HN1 := Lib.hid hn; clear hn; have HR1 := Lib.hid hr; clear hr; have HF1 := Lib.hid hf; clear hf
      by_cases hk6 : k < 6
      · have kc := HOk.out.cost k hk6
        have kd := HOk.out.hD k tn hk6 ht
        cases hm : Nd.may s k tn
        · have hst := Nd.choose_miss s tn k (by rw [hm]; simp)
          have HST := Lib.hid hst; clear hst; have HM := Lib.hid hm; clear hm
          go_wp2_with fail
          refine (may_any b k tn s _ hk6 ht kc kd HN1.out).mono ?_
          rintro e w2 ⟨rfl, hF2⟩
          have hn2 := HN1.out.keep hF2 (fun h => h)
          have hr2 := HR1.out.keep hF2 (fun h => h)
          have hf2 := HF1.out.trans hF2
          clear hF2
          have HN2 := Lib.hid hn2; clear hn2; have HR2 := Lib.hid hr2; clear hr2; have HF2 := Lib.hid hf2; clear hf2
          rw [HM.out]
          go_wp2
          go_roundw
          case rel => exact ⟨k + 1, by omega, by go_num, HN2.out, by rw [HST.out]; exact HR2.out, HF2.out⟩
          case measure => simp [intOf]; omega
        · have HM := Lib.hid hm; clear hm
          go_wp2_with fail
          refine (may_any b k tn s _ hk6 ht kc kd HN1.out).mono ?_
          rintro e w2 ⟨rfl, hF2⟩
          have hn2 := HN1.out.keep hF2 (fun h => h)
          have hr2 := HR1.out.keep hF2 (fun h => h)
          have hf2 := HF1.out.trans hF2
          clear hF2
          have g1 := hn2.hS hk6 ht
          have g2 := hn2.hD hk6 ht
          have hl2 := hn2.lt
          have HN2 := Lib.hid hn2; clear hn2; have HR2 := Lib.hid hr2; clear hr2; have HF2 := Lib.hid hf2; clear hf2
          rw [HM.out]
          go_wp2
          refine wp_name fun w3 hw3 => ?_
          have b0 : w3.cell? ⟨w2.heap.size, 0, none⟩ = some (.int .i64 (s.hS k tn)) := by rw [hw3]; simp
          have b1 : w3.cell? ⟨w2.heap.size, 1, none⟩ = some (.int .i64 (s.hD k tn)) := by rw [hw3]; simp
          have hf : Fr NoB w2 w3 := by rw [hw3]; exact (Fr.refl _ _).alloc _
          have hn3 := HN2.out.keep hf (fun h => h)
          have hr3 := HR2.out.keep hf (fun h => h)
          have hf3 := HF2.out.trans hf
          have hne : b ≠ w.heap.size := by omega
          clear hw3 g1 g2 hl2 hf
          have d0 := hr3.c0
          have d1 := hr3.c1
          have d2 := hr3.c2
          have f0 := hr3.fz 0
          have f1 := hr3.fz 1
          have f2 := hr3.fz 2
          have e0 := hn3.cost hk6
          have hsum := IntWalk.i64_in (s.hD k tn + s.cost k) (by omega)
          have HN3 := Lib.hid hn3; clear hn3; have HR3 := Lib.hid hr3; clear hr3; have HF3 := Lib.hid hf3; clear hf3; have HNE := Lib.hid hne; clear hne
          have hki : (k : Int) < 6 := by omega
          by_cases hx : (Nd.choose s tn k).hop = -1
          · have hst := Nd.choose_hit s tn k ⟨HM.out, .inl hx⟩
            have hb : ((Nd.choose s tn k).hop == -1) = true := by simp [hx]
            have HST := Lib.hid hst; clear hst; have HX := Lib.hid hx; clear hx
            go_quiet (fail)
            go_wp2
            (refine still_tail 13 (by kernel_rfl) (by kernel_rfl) ?_; simp only [List.take_succ_cons, List.take_zero, List.drop_succ_cons, List.drop_zero]; (iterate 13 (refine wpStill_step (fun K hK => ?_); go_simp; (with_reducible refine hK _ ?_); clear hK K)); refine wpStill_nil ?_)
            go_wp2
            go_roundw
            case rel => exact ⟨k + 1, by omega, by go_num, ((((HN3.out : NAt ((w3.drewN nq).drew) b _ s)).other HNE.out 0 _).other HNE.out 1 _).other HNE.out 2 _, by rw [HST.out]; exact WAt.set ((HR3.out : WAt ((w3.drewN nq).drew) _ _)) _ _ _, (((HF3.out.drewN nq).drew.setNew (Nat.le_refl _) 0 _).setNew (Nat.le_refl _) 1 _).setNew (Nat.le_refl _) 2 _⟩
            case measure => simp [intOf]; omega
          · have hb : ((Nd.choose s tn k).hop == -1) = false := by simp [hx]
            have HX := Lib.hid hx; clear hx
            cases hbt : Nd.betB (s.hS k tn) (s.hD k tn + s.cost k) (Nd.choose s tn k).seq (Nd.choose s tn k).dist
            · have hst := Nd.choose_miss s tn k (by
                rintro ⟨_, h | h⟩
                · exact HX.out h
                · rw [hbt] at h; cases h)
              have HST := Lib.hid hst; clear hst; have HB := Lib.hid hbt; clear hbt
              (refine still_tail 19 (by kernel_rfl) (by kernel_rfl) ?_; simp only [List.take_succ_cons, List.take_zero, List.drop_succ_cons, List.drop_zero]; (iterate 19 (refine wpStill_step (fun K hK => ?_); go_simp; (with_reducible refine hK _ ?_); clear hK K)); refine wpStill_nil ?_)
              go_wp2_with fail
              refine (Better_any _ _ _ _ _).mono ?_
              rintro e w4 ⟨rfl, hF4⟩
              have hn4 := NAt.keep (w := w3.drew) HN3.out hF4 (fun h => h)
              have hr4 := WAt.keep (w := w3.drew) HR3.out hF4 (fun h => h)
              have hf4 := HF3.out.drew.trans hF4
              clear hF4
              have HN4 := Lib.hid hn4; clear hn4; have HR4 := Lib.hid hr4; clear hr4; have HF4 := Lib.hid hf4; clear hf4
              rw [HB.out]
              go_wp2
              go_roundw
              case rel => exact ⟨k + 1, by omega, by go_num, HN4.out, by rw [HST.out]; exact HR4.out, HF4.out⟩
              case measure => simp [intOf]; omega
            · have hst := Nd.choose_hit s tn k ⟨HM.out, .inr hbt⟩
              have HST := Lib.hid hst; clear hst; have HB := Lib.hid hbt; clear hbt
              (refine still_tail 19 (by kernel_rfl) (by kernel_rfl) ?_; simp only [List.take_succ_cons, List.take_zero, List.drop_succ_cons, List.drop_zero]; (iterate 19 (refine wpStill_step (fun K hK => ?_); go_simp; (with_reducible refine hK _ ?_); clear hK K)); refine wpStill_nil ?_)
              go_wp2_with fail
              refine (Better_any _ _ _ _ _).mono ?_
              rintro e w4 ⟨rfl, hF4⟩
              have hn4 := NAt.keep (w := w3.drew) HN3.out hF4 (fun h => h)
              have hr4 := WAt.keep (w := w3.drew) HR3.out hF4 (fun h => h)
              have hf4 := HF3.out.drew.trans hF4
              have b0 := cell_fr (w := w3.drew) hF4 b0 (fun h => h)
              have b1 := cell_fr (w := w3.drew) hF4 b1 (fun h => h)
              clear hF4 d0 d1 d2 f0 f1 f2 e0
              have d0 := hr4.c0
              have d1 := hr4.c1
              have d2 := hr4.c2
              have f0 := hr4.fz 0
              have f1 := hr4.fz 1
              have f2 := hr4.fz 2
              have e0 := hn4.cost hk6
              have HN4 := Lib.hid hn4; clear hn4; have HR4 := Lib.hid hr4; clear hr4; have HF4 := Lib.hid hf4; clear hf4
              rw [HB.out]
              go_wp2
              (refine still_tail 13 (by kernel_rfl) (by kernel_rfl) ?_; simp only [List.take_succ_cons, List.take_zero, List.drop_succ_cons, List.drop_zero]; (iterate 13 (refine wpStill_step (fun K hK => ?_); go_simp; (with_reducible refine hK _ ?_); clear hK K)); refine wpStill_nil ?_)
              go_wp2
              go_roundw
              case rel => exact ⟨k + 1, by omega, by go_num, ((((HN4.out : NAt w4.drew b _ s)).other HNE.out 0 _).other HNE.out 1 _).other HNE.out 2 _, by rw [HST.out]; exact WAt.set ((HR4.out : WAt w4.drew _ _)) _ _ _, ((HF4.out.drew.setNew (Nat.le_refl _) 0 _).setNew (Nat.le_refl _) 1 _).setNew (Nat.le_refl _) 2 _⟩
              case measure => simp [intOf]; omega
      · obtain rfl : k = 6 := by omega
        have hti : (tn : Int) < 6 := by omega
        have d0 := HR1.out.c0
        have d1 := HR1.out.c1
        have d2 := HR1.out.c2
        have g0 := HN1.out.wS ht
        have g1 := HN1.out.wD ht
        have g2 := HN1.out.wH ht
        have f0 := HN1.out.fz (79 + tn * 3)
        have f1 := HN1.out.fz (79 + tn * 3 + 1)
        have f2 := HN1.out.fz (79 + tn * 3 + 2)
        go_wp2
        (refine still_tail 6 (by kernel_rfl) (by kernel_rfl) ?_; simp only [List.take_succ_cons, List.take_zero, List.drop_succ_cons, List.drop_zero]; (iterate 6 (refine wpStill_step (fun K hK => ?_); go_simp; (with_reducible refine hK _ ?_); clear hK K)); refine wpStill_nil ?_)
        go_wp2
        have hne : w.heap.size ≠ b := by omega
        refine wp_name fun w2 hw2 => ?_
        have hn2 : NAt w2 b 136 { s with wS := Nd.up s.wS tn (Nd.choose s tn 6).seq, wD := Nd.up s.wD tn (Nd.choose s tn 6).dist, wH := Nd.up s.wH tn (Nd.choose s tn 6).hop } := by
          rw [hw2]
          exact World.rowIs.drew ((HN1.out.setW ht _ _ _).alloc _)
        have hr2 : WAt w2 w.heap.size (Nd.choose s tn 6) := by
          rw [hw2]
          exact World.rowIs.drew ((((HR1.out.other hne _ _).other hne _ _).other hne _ _).alloc _)
        have b0 : w2.cell? ⟨wr.heap.size, 0, none⟩ = some (.int .i64 (Nd.choose s tn 6).seq) := by rw [hw2, World.cell?_drew, World.cell?_alloc_at _ _ _ _ (by simp)]; rfl
        have b1 : w2.cell? ⟨wr.heap.size, 1, none⟩ = some (.int .i64 (Nd.choose s tn 6).dist) := by rw [hw2, World.cell?_drew, World.cell?_alloc_at _ _ _ _ (by simp)]; rfl
        have hf2 : Fr (OneB b) w w2 := by
          rw [hw2]
          exact ((((HF1.out.one.set1 _ _).set1 _ _).set1 _ _).alloc _).drew
        clear hw2 d0 d1 d2 g0 g1 g2 f0 f1 f2 HR1 HN1 HF1
        have d2 := hr2.c2
        have e0 := hn2.bS ht
        have e1 := hn2.bD ht
        have HN2 := Lib.hid hn2; clear hn2; have HF2 := Lib.hid hf2; clear hf2
        clear hr2
        by_cases hx : (Nd.choose s tn 6).hop = -1
        · have hb : ((Nd.choose s tn 6).hop != -1) = false := by simp [hx]
          have hy := Nd.lay_keep s tn (Nd.choose s tn 6) (fun h => h.1 hx)
          have HY := Lib.hid hy; clear hy; have HX := Lib.hid hx; clear hx
          go_quiet (fail)
          go_wp2
          refine bodyPost_end (results_none rfl _ _ _) rfl ?_
          exact ⟨rfl, by rw [HP.out, HY.out]; exact HN2.out, HF2.out.drewN _⟩
        · have hb : ((Nd.choose s tn 6).hop != -1) = true := by simp [hx]
          have HX := Lib.hid hx; clear hx
          (refine still_tail 11 (by kernel_rfl) (by kernel_rfl) ?_; simp only [List.take_succ_cons, List.take_zero, List.drop_succ_cons, List.drop_zero]; (iterate 11 (refine wpStill_step (fun K hK => ?_); go_simp; (with_reducible refine hK _ ?_); clear hK K)); refine wpStill_nil ?_)
          go_wp2_with fail
          refine (better_any _ _ _ _ _).mono ?_
          rintro e w3 ⟨rfl, hF3⟩
          have hn3 := NAt.keep (w := w2.drew) HN2.out hF3 (fun h => h)
          have hf3 := HF2.out.drew.trans hF3.one
          have b0 := cell_fr (w := w2.drew) hF3 b0 (fun h => h)
          have b1 := cell_fr (w := w2.drew) hF3 b1 (fun h => h)
          clear hF3 d2
          have e0 := hn3.bS ht
          have e1 := hn3.bD ht
          have f0 := hn3.fz (97 + tn * 2)
          have f1 := hn3.fz (97 + tn * 2 + 1)
          have HN3 := Lib.hid hn3; clear hn3; have HF3 := Lib.hid hf3; clear hf3
          cases hbt : Nd.betB (Nd.choose s tn 6).seq (Nd.choose s tn 6).dist (s.bS tn) (s.bD tn)
          · have hy := Nd.lay_keep s tn (Nd.choose s tn 6) (fun h => by rw [hbt] at h; cases h.2)
            have HY := Lib.hid hy; clear hy; have HB := Lib.hid hbt; clear hbt
            go_wp2
            refine bodyPost_end (results_none rfl _ _ _) rfl ?_
            exact ⟨rfl, by rw [HP.out, HY.out]; exact HN3.out, HF3.out⟩
          · have hy := Nd.lay_best s tn (Nd.choose s tn 6) ⟨HX.out, hbt⟩
            have HY := Lib.hid hy; clear hy; have HB := Lib.hid hbt; clear hbt
            go_wp2
            (refine still_tail 6 (by kernel_rfl) (by kernel_rfl) ?_; simp only [List.take_succ_cons, List.take_zero, List.drop_succ_cons, List.drop_zero]; (iterate 6 (refine wpStill_step (fun K hK => ?_); go_simp; (with_reducible refine hK _ ?_); clear hK K)); refine wpStill_nil ?_)
            go_wp2
            refine bodyPost_end (results_none rfl _ _ _) rfl ?_
            exact ⟨rfl, by rw [HP.out, HY.out]; exact NAt.setB (w := w3.drew) HN3.out ht _ _, (HF3.out.drew.set1 _ _).set1 _ _⟩

def AlRel (b : Nat) (s : Nd.NS) (w : World) (i : Value) (wr : World) : Prop :=
  ∃ k : Nat, k ≤ 6 ∧ i = .int .i64 k ∧ NAt wr b 136 (Nd.all s k) ∧ Fr (OneB b) w wr

set_option maxHeartbeats 400000 in
theorem all_any (b : Nat) (s : Nd.NS) (w : World) (ok : Nd.Ok s) (hn : NAt w b 136 s) :
    Calls Tryz.prog 119 #[.pointer (some ⟨b, 0, none⟩)] w (NilFr b 136 (Nd.all s 6) w) := by
  have HN := Lib.hid hn; clear hn; have HOk := Lib.hid ok; clear ok
  go_enter Tryz.func119, Tryz.ntmps119
  go_wp2
  go_loopw [3] (fun i wr => AlRel b s w i wr) (fun i _ => 6 - (intOf i).toNat)
  case atStart => exact ⟨0, by omega, rfl, HN.out, Fr.refl _ _⟩
  case round =>
    clear HN
    obtain ⟨k, hk, rfl, hn, hf⟩ := hrel
    have HN := Lib.hid hn; clear hn; have HF := Lib.hid hf; clear hf
    by_cases hk6 : k < 6
    · go_wp2_with fail
      refine (pick_any b k (Nd.all s k) _ (HOk.out.all k) hk6 HN.out).mono ?_
      rintro e w2 ⟨rfl, hn2, hf2⟩
      have hf3 := HF.out.trans hf2
      clear hf2
      have HN2 := Lib.hid hn2; clear hn2; have HF2 := Lib.hid hf3; clear hf3
      go_wp2
      go_roundw
      case rel => exact ⟨k + 1, by omega, by go_num, HN2.out, HF2.out⟩
      case measure => simp [intOf]; omega
    · obtain rfl : k = 6 := by omega
      go_wp2
      refine bodyPost_end (results_none rfl _ _ _) rfl ?_
      exact ⟨rfl, HN.out, HF.out⟩
end Go.Proofs.YteedndapbfihaaaGreat
