/- Walks: a town's Full and Small. -/
import Derived.Test.YteedndapbfihaaaGreatB28
import Derived.Test.YteedndapbfihaaaGreatB34
import Derived.Test.YteedndapbfihaaaGreatB6
import Derived.Test.YteedndapbfihaaaGreatB13
import Derived.Test.YteedndapbfihaaaGreatB26
namespace Go.Proofs.YteedndapbfihaaaGreat
open Go.RowKit Go.Deep

theorem SlR.keep0 {w w' : World} {base : Nat} {v : Value} {L : List Tb.Rt} (h : SlR w base v L) (hf : Fr NoB w w') : SlR w' base v L := own_keep h hf (fun _ _ h => h)
theorem rl_few {L : List Tb.Rt} (hw : Tb.Wf L) (g : Nat) (w : World) (h : RdL w (some ⟨g, 0, none⟩) (Tb.allOf L)) :
    Calls Tryz.prog 49 #[.agg #[.int .i64 0, .int .i64 0], .slice (some ⟨g, 0, none⟩) 256 256, .int .i64 (-1)] w (LvPost (Tb.few L) w) := by
  have k := rl_any 8 0 0 (Tb.allOf L) (-1) (some ⟨g, 0, none⟩) 256 w (Tb.fit_allOf L) (Tb.allOf_hops hw) (by unfold Tb.hopOK; omega) h (by rw [Tb.allOf_len]; exact Nat.le_refl _) (by omega)
  rw [Tb.allOf_len] at k
  exact k
def HopPostT (h : Int) (w : World) (e : Ending) (w' : World) : Prop := ∃ s d : Int, e = .returned (.agg #[.int .i64 s, .int .i64 d, .int .i64 h]) ∧ Fr NoB w w'
theorem THop_any (y : TIds) (u : Value) (t : Nt.NT) (a : Nat) (b : Int) (w : World) (ha : a < 6) (h : TnAt w y u t) :
    Calls Tryz.prog 48 #[.pointer (some ⟨y.b, 0, none⟩), .int .i64 a, .int .i64 b] w (HopPostT (hopT t b a) w) := by
  have k := TWay_any y u t a b w h
  rw [if_pos (show Nt.isN (a : Int) from ⟨by omega, by omega⟩), Int.toNat_natCast] at k
  refine k.mono ?_
  rintro e w' ⟨rfl, hf⟩
  exact ⟨_, _, rfl, hf⟩
def TFullRel (s : Fb.PT) (n : Nat) (w : World) (v : Value) (i : Value) (wr : World) : Prop :=
  ∃ k : Nat, k ≤ s.o.length ∧ i = .int .i64 k ∧ SlR wr w.heap.size v (Fb.full s.t (s.o.take k) n) ∧ Fr NoB w wr
set_option maxRecDepth 100000 in
set_option maxHeartbeats 8000000 in
theorem TFull_any (y : TIds) (u : Value) (al : Option Addr) (s : Fb.PT) (n : Nat) (w : World) (hn : n < 6) (ho : s.o.length ≤ 40) (h : TwAt w y u al s) :
    Calls Tryz.prog 22 #[.pointer (some ⟨y.b, 0, none⟩), .int .i64 n] w (LvPost (Fb.full s.t s.o n) w) := by
  obtain ⟨c, hc⟩ := h.own
  have H := Lib.hid h; clear h; have HC := Lib.hid hc; clear hc
  have hfd := fieldHop
  go_enter Tryz.func22, Tryz.ntmps22
  go_wp2
  go_loopw [5, 6] (fun v i wr => TFullRel s n w v i wr) (fun _ i _ => s.o.length - (intOf i).toNat)
  case atStart => exact ⟨0, by omega, rfl, SlR.nil _ _, Fr.refl _ _⟩
  case round =>
    obtain ⟨k, hk, rfl, hv, hf⟩ := hrel
    have c43 := (H.out.keep0 hf).c43
    rw [HC.out] at c43
    have HV := Lib.hid hv; clear hv; have HF := Lib.hid hf; clear hf
    by_cases hkk : k < s.o.length
    · obtain ⟨b0, o0, rfl, c0, c1, c2⟩ := ((H.out.keep0 HF.out).rs) k hkk
      have hst := Fb.full_take s.t s.o n k hkk
      have hfl : (Fb.full s.t (s.o.take k) n).length ≤ 40 := by rw [Fb.full_len, List.length_take]; omega
      have hki : (k : Int) < (s.o.length : Int) := by omega
      have hnew : y.b < w.heap.size ∧ b0 < w.heap.size := ⟨H.out.tn.lt (.inl rfl), (H.out.sep _ rfl).2.2⟩
      generalize hrt : Tb.nth s.o k = r at *
      obtain ⟨⟨l, b⟩, hop⟩ := r
      dsimp only at c0 c1 c2
      have HST := Lib.hid hst; clear hst; have HFL := Lib.hid hfl; clear hfl; have HNEW := Lib.hid hnew; clear hnew
      clear hrt
      have key : ∀ (v : Value) (L : List Tb.Rt) (W W' : World), SlR W w.heap.size v L → Fr (fun i => v.ownBlock = some i) W W' → ∀ (b1 o1 : Nat) (x : Value), b1 < w.heap.size → W.cell? ⟨b1, o1, none⟩ = some x → W'.cell? ⟨b1, o1, none⟩ = some x := fun v L W W' hS hW b1 o1 x hb hx =>
        cell_fr' hW hx (fun e => by have := (World.ownsRow.lt hS _ e).1; omega)
      have KEY := Lib.hid key; clear key
      go_wp2_with fail
      go_region_held3 (fun W => W.cell? ⟨y.b, 43, none⟩ = some (.slice (some ⟨b0, o0, none⟩) s.o.length c) ∧ W.cell? ⟨b0, o0 + k * 3, none⟩ = some (.int .i64 l) ∧ W.cell? ⟨b0, o0 + k * 3 + 1, none⟩ = some (.int .i64 b) ∧ W.cell? ⟨b0, o0 + k * 3 + 2, none⟩ = some (.int .i64 hop))
        (first | exact ⟨c43, c0, c1, c2⟩ | exact ⟨e43, e0, e1, e2⟩ | exact ⟨g43, g0, g1, g2⟩ | go_keep)
        (first | (go_at_call 48; refine (THop_any y u s.t n hop _ hn (by exact (H.out.keep0 HF.out.drew).tn)).mono ?_; rintro e w4 ⟨ws, wd, rfl, hf⟩; have hf := (Fr.refl NoB wr).drew.trans hf; have e43 := cell_fr' hf c43 (fun h => h); have e0 := cell_fr' hf c0 (fun h => h); have e1 := cell_fr' hf c1 (fun h => h); have e2 := cell_fr' hf c2 (fun h => h); have HV4 := Lib.hid (SlR.keep0 HV.out hf); have HF4 := Lib.hid (HF.out.trans hf); clear hf) | (refine step_app (by rfl) (.tmp 16) (.tmp 38) 29 87 3 24 (.agg #[.int .i64 0, .int .i64 0, .int .i64 0]) (by rfl) Tryz.underlying29 Tryz.info87 rfl (by omega) w.heap.size u5 (Fb.full s.t (s.o.take k) n).length _ (by rfl) (World.ownsRow.alloc HV4.out _) ⟨w4.heap.size, 0, none⟩ 1 1 (rt3 ⟨⟨l, b⟩, hopT s.t hop n⟩) (by rfl) (by rfl) (news3 w4 ⟨⟨l, b⟩, hopT s.t hop n⟩) (rt3_one _) (by omega) (by have := HFL.out; omega) (by omega) (by have := HF4.out.size; simp; omega) ?_; intro v5 w5 h1 h2; have hA : Fr NoB w4 (w4.alloc (.cells #[.int .i64 l, .int .i64 b, .int .i64 (hopT s.t hop n)] 87)) := (Fr.refl _ _).alloc _; have hS := SlR.keep0 HV4.out hA; have g43 := KEY.out _ _ _ _ hS h2 _ _ _ HNEW.out.1 (cell_fr' hA e43 (fun h => h)); have g0 := KEY.out _ _ _ _ hS h2 _ _ _ HNEW.out.2 (cell_fr' hA e0 (fun h => h)); have g1 := KEY.out _ _ _ _ hS h2 _ _ _ HNEW.out.2 (cell_fr' hA e1 (fun h => h)); have g2 := KEY.out _ _ _ _ hS h2 _ _ _ HNEW.out.2 (cell_fr' hA e2 (fun h => h)); have HV5 := Lib.hid (SlR.app h1); have HF5 := Lib.hid ((HF4.out.trans hA).ownB hS (Nat.le_refl _) h2); clear h1 h2 hA hS))
      clear c43 c0 c1 c2 e43 e0 e1 e2 g43 g0 g1 g2 HV HF HV4 HF4 KEY
      go_wp2
      go_roundw
      case rel => exact ⟨k + 1, by omega, by go_num, by rw [HST.out]; exact HV5.out, HF5.out⟩
      case measure => simp [intOf]; omega
    · have e : s.o.take k = s.o := List.take_of_length_le (by omega)
      rw [e] at HV
      clear e
      have hki : ¬ (k : Int) < (s.o.length : Int) := by omega
      go_wp2
      go_ret
      exact ⟨_, rfl, HV.out, HF.out⟩
set_option maxRecDepth 100000 in
set_option maxHeartbeats 8000000 in
theorem TSmall_any (y : TIds) (u : Value) (al : Option Addr) (s : Fb.PT) (n m : Nat) (w : World) (hn : n < 6) (hs : Fb.POk s m) (h : TwAt w y u al s) :
    Calls Tryz.prog 23 #[.pointer (some ⟨y.b, 0, none⟩), .int .i64 n] w (LvPost (Fb.small s.t s.o n) w) := by
  have hfw := Fb.full_wf hs.str hn hs.o
  have hfl : (Fb.full s.t s.o n).length ≤ 1000 := by have := hs.o.len; rw [Fb.full_len]; omega
  have h40 : (Tb.few (Fb.full s.t s.o n)).length ≤ 40 := (Fb.small_ok hs.str hn hs.o).2.2.1
  have hfu := TFull_any y u al s n w hn hs.o.len h
  have hall : (fun n' : Nat => (Tb.lookR (Fb.full s.t s.o n) n').1) = fun n' : Nat => Tb.look (Fb.full s.t s.o n) n' := funext fun n' => (Tb.look_both hfw n').1
  clear h hs
  have HFW := Lib.hid hfw; clear hfw; have HFL := Lib.hid hfl; clear hfl; have H40 := Lib.hid h40; clear h40; have HFU := Lib.hid hfu; clear hfu; have HALL := Lib.hid hall; clear hall
  go_enter Tryz.func23, Tryz.ntmps23
  go_wp2_with fail
  refine HFU.out.mono ?_
  rintro e w1 ⟨v1, rfl, hv, hf⟩
  obtain ⟨a1, c1, rfl, hr, _⟩ := hv.shape
  clear hv
  have HR := Lib.hid hr; clear hr; have HF := Lib.hid hf; clear hf
  go_wp2_with fail
  refine (AllOf_any a1 c1 (Fb.full s.t s.o n) _ HFL.out HR.out).mono ?_
  rw [HALL.out]
  rintro e w2 ⟨g, rfl, _, hrow, hf⟩
  have hrd : RdL w2 (some ⟨g, 0, none⟩) (Tb.allOf (Fb.full s.t s.o n)) := by
    intro k hk
    rw [Tb.allOf_len] at hk
    refine ⟨g, 0, rfl, ?_⟩
    rw [Nat.zero_add]
    show _ = some (Value.int .i64 ((Tb.allOf (Fb.full s.t s.o n)).getD k 0))
    rw [Tb.allOf_at _ hk]
    exact rowI_cell hrow hk
  have HF2 := Lib.hid (HF.out.trans hf)
  have HL := Lib.hid (rl_few HFW.out g w2 hrd)
  clear hrow hf hrd
  go_wp2_with fail
  refine HL.out.mono ?_
  rintro e w3 ⟨v3, rfl, hv, hf⟩
  have HV3 := Lib.hid (SlR.base hv HF2.out.size)
  have HF3 := Lib.hid (HF2.out.trans hf)
  obtain ⟨a3, c3, rfl, _⟩ := hv.shape
  clear hv hf HL
  have hb : decide ((40 : Int) < ((Tb.few (Fb.full s.t s.o n)).length : Int)) = false := by have := H40.out; simp; omega
  go_wp2
  go_ret
  exact ⟨_, rfl, HV3.out, HF3.out⟩
end Go.Proofs.YteedndapbfihaaaGreat
/- A post in memory; fib.New, Owners, Owner. -/
namespace Go.Proofs.YteedndapbfihaaaGreat
open Go.RowKit Go.Deep

structure PIds where
  p : Nat
  x : Ids
  tb : Nat
/-- A post's two cells. -/
def poF (q : PIds) (i : Nat) : Value := if i = 0 then .pointer (some ⟨q.x.b, 0, none⟩) else .pointer (some ⟨q.tb, 0, none⟩)
/-- The blocks of a post. -/
def FtP (q : PIds) (v tv : Value) (i : Nat) : Prop := i = q.p ∨ Ft q.x v i ∨ TB q.tb tv i
structure PAt (w : World) (q : PIds) (v tv : Value) (s : Fb.PT) : Prop where
  row : w.rowIs q.p 51 2 (poF q)
  net : NtAt w q.x v s.t
  tab : TAt w q.tb tv s.o
section
variable {w : World} {q : PIds} {v tv : Value} {s : Fb.PT} (h : PAt w q v tv s)
include h
theorem PAt.p0 : w.cell? ⟨q.p, 0, none⟩ = some (.pointer (some ⟨q.x.b, 0, none⟩)) := World.rowIs.cell h.row (i := 0) (by omega)
theorem PAt.p1 : w.cell? ⟨q.p, 1, none⟩ = some (.pointer (some ⟨q.tb, 0, none⟩)) := World.rowIs.cell h.row (i := 1) (by omega)
theorem PAt.pN : ¬ Ft q.x v q.p := by
  rintro (e | e | ⟨k, hk, e⟩ | e)
  · exact rows_apart h.row h.net.net (by decide) e
  · exact rows_apart h.row h.net.links (by decide) e
  · exact rows_apart h.row (h.net.node k hk) (by decide) e
  · exact row_own_apart h.row h.net.news (by decide) e
theorem PAt.pT : ¬ TB q.tb tv q.p := by
  rintro (e | e)
  · exact rows_apart h.row h.tab.row (by decide) e
  · exact row_own_apart h.row h.tab.sl (by decide) e
theorem PAt.ap : ∀ i, Ft q.x v i → ¬ TB q.tb tv i := by
  intro i hi ht
  rcases hi with e | e | ⟨k, hk, e⟩ | e
  · subst e
    rcases ht with e | e
    · exact rows_apart h.net.net h.tab.row (by decide) e
    · exact row_own_apart h.net.net h.tab.sl (by decide) e
  · subst e
    rcases ht with e | e
    · exact rows_apart h.net.links h.tab.row (by decide) e
    · exact row_own_apart h.net.links h.tab.sl (by decide) e
  · subst e
    rcases ht with e | e
    · exact rows_apart (h.net.node k hk) h.tab.row (by decide) e
    · exact row_own_apart (h.net.node k hk) h.tab.sl (by decide) e
  · rcases ht with e' | e'
    · subst e'
      exact row_own_apart h.tab.row h.net.news (by decide) e
    · exact own_apart h.net.news h.tab.sl (by decide) i e e'
theorem PAt.lt {i : Nat} (hi : FtP q v tv i) : i < w.heap.size := by
  rcases hi with e | e | e | e
  · subst e; exact World.rowIs.lt h.row
  · exact h.net.lt e
  · subst e; exact World.rowIs.lt h.tab.row
  · exact (World.ownsRow.lt h.tab.sl i e).2
theorem PAt.keep {S : Nat → Prop} {w' : World} (hf : Fr S w w') (hS : ∀ i, FtP q v tv i → ¬ S i) : PAt w' q v tv s :=
  ⟨hf.row h.row (hS _ (.inl rfl)), h.net.keep hf (fun i hi => hS i (.inr (.inl hi))), h.tab.keep hf (hS _ (.inr (.inr (.inl rfl)))) (fun g hg => hS g (.inr (.inr (.inr hg))))⟩
theorem PAt.keep0 {w' : World} (hf : Fr NoB w w') : PAt w' q v tv s := h.keep hf (fun _ _ h => h)
theorem PAt.setNet {w' : World} {v' : Value} {t' : Nt.NT} (hn : NtAt w' q.x v' t') (hf : Fr (Ft q.x v) w w') : PAt w' q v' tv ⟨t', s.o⟩ :=
  ⟨hf.row h.row h.pN, hn, h.tab.keep hf (fun e => h.ap _ e (.inl rfl)) (fun _ hg e => h.ap _ e (.inr hg))⟩
theorem PAt.setTab {w' : World} {tv' : Value} {o' : List Tb.Rt} (ht : TAt w' q.tb tv' o') (hf : Fr (TB q.tb tv) w w') : PAt w' q v tv' ⟨s.t, o'⟩ :=
  ⟨hf.row h.row h.pT, h.net.keep hf (fun i hi => h.ap i hi), ht⟩
end
/-- What a step of a post says and leaves. -/
def PDo (q : PIds) (v tv : Value) (s : Fb.PT) (c : Int) (w : World) (e : Ending) (w' : World) : Prop :=
  ∃ v' tv', e = .returned (.int .i64 c) ∧ PAt w' q v' tv' s ∧ Fr (FtP q v tv) w w' ∧ ∀ i, FtP q v' tv' i → FtP q v tv i ∨ w.heap.size ≤ i
theorem FtP.net {q : PIds} {v v' tv : Value} {n i : Nat} (hg : ∀ g, v'.ownBlock = some g → v.ownBlock = some g ∨ n ≤ g) (hi : FtP q v' tv i) : FtP q v tv i ∨ n ≤ i := by
  rcases hi with e | (e | e | e | e) | e
  · exact .inl (.inl e)
  · exact .inl (.inr (.inl (.inl e)))
  · exact .inl (.inr (.inl (.inr (.inl e))))
  · exact .inl (.inr (.inl (.inr (.inr (.inl e)))))
  · rcases hg i e with e | e
    · exact .inl (.inr (.inl (.inr (.inr (.inr e)))))
    · exact .inr e
  · exact .inl (.inr (.inr e))
theorem FtP.tab {q : PIds} {v tv tv' : Value} {n i : Nat} (hg : ∀ g, tv'.ownBlock = some g → tv.ownBlock = some g ∨ n ≤ g) (hi : FtP q v tv' i) : FtP q v tv i ∨ n ≤ i := by
  rcases hi with e | e | e | e
  · exact .inl (.inl e)
  · exact .inl (.inr (.inl e))
  · exact .inl (.inr (.inr (.inl e)))
  · rcases hg i e with e | e
    · exact .inl (.inr (.inr (.inr e)))
    · exact .inr e
/-- A post of one's own: its blocks are new since w. -/
structure PR (w : World) (q : PIds) (v tv : Value) (s : Fb.PT) (wr : World) : Prop where
  at_ : PAt wr q v tv s
  f : Fr NoB w wr
  new : ∀ i, FtP q v tv i → w.heap.size ≤ i
theorem PR.keep {w wr wx : World} {q : PIds} {v tv : Value} {s : Fb.PT} (h : PR w q v tv s wr) (hf : Fr NoB wr wx) : PR w q v tv s wx := ⟨h.at_.keep0 hf, h.f.trans hf, h.new⟩
theorem PR.step {w wr wx : World} {q : PIds} {v tv v' tv' : Value} {s s' : Fb.PT} (h : PR w q v tv s wr) (ha : PAt wx q v' tv' s') (hf : Fr (FtP q v tv) wr wx) (hg : ∀ i, FtP q v' tv' i → FtP q v tv i ∨ wr.heap.size ≤ i) : PR w q v' tv' s' wx := by
  refine ⟨ha, h.f.trans' hf (fun i hi h' => by have := h.new i h'; omega), fun i hi => ?_⟩
  rcases hg i hi with e | e
  · exact h.new i e
  · have := h.f.size; omega
def NewPPost (w : World) (e : Ending) (w' : World) : Prop := ∃ (q : PIds) (v tv : Value), e = .returned (.pointer (some ⟨q.p, 0, none⟩)) ∧ PR w q v tv Fb.begunP w'
set_option maxRecDepth 100000 in
set_option maxHeartbeats 4000000 in
theorem NewP (w : World) : Calls Tryz.prog 40 #[] w (NewPPost w) := by
  go_enter Tryz.func40, Tryz.ntmps40
  go_wp2_with fail
  refine (NewNt _).mono ?_
  rintro e w1 ⟨x, v, rfl, hn, hf, hnew⟩
  have HN := Lib.hid hn; clear hn; have HF := Lib.hid hf; clear hf; have HNEW := Lib.hid hnew; clear hnew
  go_wp2_with fail
  refine (NewT _).mono ?_
  rintro e w2 ⟨rfl, hT, hf2⟩
  have HT := Lib.hid hT; clear hT; have HF2 := Lib.hid hf2; clear hf2
  go_wp2
  refine bodyPost_ret (v := .pointer (some ⟨w2.heap.size, 0, none⟩)) ?_ rfl ⟨⟨w2.heap.size, x, w1.heap.size⟩, v, .slice none 0 0, rfl, ⟨?_, ?_, ?_⟩, ?_, ?_⟩
  · simp [results, Tryz.results40, go_sem]
  · exact World.rowIs_alloc w2 _ _ (poF ⟨w2.heap.size, x, w1.heap.size⟩) (fun i hi => by
      match i, hi with
      | 0, _ => rfl
      | 1, _ => rfl)
  · exact HN.out.keep0 (HF2.out.trans ((Fr.refl _ _).alloc _))
  · exact HT.out.keep0 ((Fr.refl _ _).alloc _)
  · exact (HF.out.trans HF2.out).alloc _
  · have h1 := HF.out.size
    have h2 := HF2.out.size
    rintro i (e | e | e | e)
    · subst e; show w.heap.size ≤ w2.heap.size; omega
    · exact HNEW.out i e
    · subst e; exact h1
    · cases e
set_option maxRecDepth 100000 in
set_option maxHeartbeats 4000000 in
theorem Owner_any (q : PIds) (v tv : Value) (s : Fb.PT) (a : Int) (w : World) (ho : s.o.length ≤ 40) (h : PAt w q v tv s) :
    Calls Tryz.prog 16 #[.pointer (some ⟨q.p, 0, none⟩), .int .i64 a] w (IntFr (Tb.look s.o a) w) := by
  have p1 := h.p1
  obtain ⟨al, c, rfl, hr, _, hc⟩ := h.tab.shape
  clear h
  have HR := Lib.hid hr; clear hr
  go_enter Tryz.func16, Tryz.ntmps16
  go_wp2_with fail
  refine (Look_any q.tb al c s.o a _ (by omega) HR.out hc).mono ?_
  rintro e w1 ⟨rfl, hf⟩
  have HF := Lib.hid hf; clear hf
  go_wp2
  go_ret
  exact ⟨rfl, HF.out⟩
end Go.Proofs.YteedndapbfihaaaGreat
/- Walks: a post's Do. -/
namespace Go.Proofs.YteedndapbfihaaaGreat
open Go.RowKit Go.Deep

def PDoSaid (q : PIds) (v tv : Value) (s : Fb.PT) (k a b n pl pb : Int) (w : World) : Prop :=
  Calls Tryz.prog 28 #[.pointer (some ⟨q.p, 0, none⟩), step6 k a b n pl pb] w (PDo q v tv (Fb.doP s k a b n pl pb).1 (Fb.doP s k a b n pl pb).2 w)
set_option maxRecDepth 100000 in
set_option maxHeartbeats 4000000 in
theorem PDo_net (q : PIds) (v tv : Value) (s : Fb.PT) (k a b n pl pb : Int) (m : Nat) (w : World) (h7 : k ≠ 7) (hs : Nt.NOk s.t m) (hm : m ≤ 1000) (h : PAt w q v tv s) : PDoSaid q v tv s k a b n pl pb w := by
  unfold PDoSaid
  rw [Fb.doP_net s h7]
  have hb7 : (k != 7) = true := by simpa using h7
  have hdo := fun W (hW : Fr NoB w W) => Do_any q.x v s.t k a b n pl pb m W hs hm (h.net.keep0 hW)
  unfold step6 at *
  clear h7 hs
  have H := Lib.hid h; clear h; have HDO := Lib.hid hdo; clear hdo
  go_enter Tryz.func28, Tryz.ntmps28
  go_upto_region 1 with fail
  refine wp_name fun w1 hw1 => ?_
  have d0 : w1.cell? ⟨w.heap.size, 0, none⟩ = some (.int .i64 k) := by rw [hw1]; simp
  have d1 : w1.cell? ⟨w.heap.size, 1, none⟩ = some (.int .i64 a) := by rw [hw1]; simp
  have d2 : w1.cell? ⟨w.heap.size, 2, none⟩ = some (.int .i64 b) := by rw [hw1]; simp
  have d3 : w1.cell? ⟨w.heap.size, 3, none⟩ = some (.int .i64 n) := by rw [hw1]; simp
  have d4 : w1.cell? ⟨w.heap.size, 4, none⟩ = some (.int .i64 pl) := by rw [hw1]; simp
  have d5 : w1.cell? ⟨w.heap.size, 5, none⟩ = some (.int .i64 pb) := by rw [hw1]; simp
  have hF : Fr NoB w w1 := by rw [hw1]; (repeat (first | exact Fr.refl _ _ | refine Fr.alloc ?_ _ | refine Fr.setNew ?_ (by omega) _ _ | refine Fr.drewN ?_ _ | refine Fr.drew ?_))
  clear hw1
  have h1 := H.out.keep0 hF
  have p0 := h1.p0
  have hz : ∀ i, FtP q v tv i → i ≠ w.heap.size := fun i hi e => by have := H.out.lt hi; omega
  have hpN := h1.pN
  generalize w.heap.size = z at *
  have hzN : ¬ Ft q.x v z := fun e => hz z (.inr (.inl e)) rfl
  clear hz
  have H1 := Lib.hid h1; clear h1; have HF := Lib.hid hF; clear hF; have HPN := Lib.hid hpN; clear hpN; have HZN := Lib.hid hzN; clear hzN
  go_wp2_with fail
  go_region_held3 (fun W => W.cell? ⟨q.p, 0, none⟩ = some (.pointer (some ⟨q.x.b, 0, none⟩)) ∧ W.cell? ⟨z, 0, none⟩ = some (.int .i64 k) ∧ W.cell? ⟨z, 1, none⟩ = some (.int .i64 a) ∧ W.cell? ⟨z, 2, none⟩ = some (.int .i64 b) ∧ W.cell? ⟨z, 3, none⟩ = some (.int .i64 n) ∧ W.cell? ⟨z, 4, none⟩ = some (.int .i64 pl) ∧ W.cell? ⟨z, 5, none⟩ = some (.int .i64 pb))
    (first | exact ⟨p0, d0, d1, d2, d3, d4, d5⟩ | exact ⟨ep, e0, e1, e2, e3, e4, e5⟩)
    (first | (go_at_call 56; refine (HDO.out _ HF.out.drew).mono ?_; rintro e w2 ⟨v', rfl, ha, hf, hg⟩; have ep := cell_fr' hf p0 HPN.out; have e0 := cell_fr' hf d0 HZN.out; have e1 := cell_fr' hf d1 HZN.out; have e2 := cell_fr' hf d2 HZN.out; have e3 := cell_fr' hf d3 HZN.out; have e4 := cell_fr' hf d4 HZN.out; have e5 := cell_fr' hf d5 HZN.out; have HA := Lib.hid ha; have HF2 := Lib.hid hf; have HG := Lib.hid hg; clear ha hf hg))
  go_wp2
  go_ret
  refine ⟨v', tv, rfl, (H1.out.keep0 (Fr.refl _ _).drew).setNet HA.out HF2.out, ?_, fun i hi => FtP.net (fun g hg => ?_) hi⟩
  · exact (HF.out.drew.mono (fun _ _ h => h.elim)).trans (HF2.out.mono (fun i _ hi => .inr (.inl hi)))
  · rcases HG.out g hg with e | e
    · exact .inl e
    · exact .inr (Nat.le_trans HF.out.size e)
set_option maxRecDepth 100000 in
set_option maxHeartbeats 4000000 in
theorem PDo_no (q : PIds) (v tv : Value) (s : Fb.PT) (a b n pl pb : Int) (w : World) (ha : ¬ Nt.isN a) (h : PAt w q v tv s) : PDoSaid q v tv s 7 a b n pl pb w := by
  unfold PDoSaid
  rw [Fb.doP_own, Fb.ownT_no _ ha]
  unfold step6
  have H := Lib.hid h; clear h; have HA := Lib.hid ha; clear ha
  go_enter Tryz.func28, Tryz.ntmps28
  go_wp2_with fail
  refine (Node_no _ _ HA.out).mono ?_; rintro e w' ⟨rfl, rfl⟩
  go_wp2
  go_ret
  exact ⟨v, tv, rfl, H.out.keep0 ((Fr.refl _ _).alloc _), (Fr.refl _ _).alloc _, fun _ h => .inl h⟩
set_option maxRecDepth 100000 in
set_option maxHeartbeats 4000000 in
theorem PDo_own (q : PIds) (v tv : Value) (s : Fb.PT) (a b n pl pb : Int) (w : World) (ha : Nt.isN a) (ho : Fb.OOk s.o) (h : PAt w q v tv s) : PDoSaid q v tv s 7 a b n pl pb w := by
  unfold PDoSaid
  rw [Fb.doP_own, Fb.ownT_yes _ ha]
  dsimp only
  unfold step6
  obtain ⟨a0, a1⟩ := ha
  have hdo := fun W hop (hW : Fr NoB w W) => Set_any q.tb tv s.o pl pb hop W ho.len ho.wf (h.tab.keep0 hW)
  generalize hO : Fb.ownH a n = hop
  clear ho
  have H := Lib.hid h; clear h; have HDO := Lib.hid hdo; clear hdo; have HO := Lib.hid hO; clear hO
  go_enter Tryz.func28, Tryz.ntmps28
  go_upto_region 1 with fail
  refine wp_name fun w1 hw1 => ?_
  have d0 : w1.cell? ⟨w.heap.size, 0, none⟩ = some (.int .i64 7) := by rw [hw1]; simp
  have d1 : w1.cell? ⟨w.heap.size, 1, none⟩ = some (.int .i64 a) := by rw [hw1]; simp
  have d3 : w1.cell? ⟨w.heap.size, 3, none⟩ = some (.int .i64 n) := by rw [hw1]; simp
  have d4 : w1.cell? ⟨w.heap.size, 4, none⟩ = some (.int .i64 pl) := by rw [hw1]; simp
  have d5 : w1.cell? ⟨w.heap.size, 5, none⟩ = some (.int .i64 pb) := by rw [hw1]; simp
  have hF : Fr NoB w w1 := by rw [hw1]; (repeat (first | exact Fr.refl _ _ | refine Fr.alloc ?_ _ | refine Fr.setNew ?_ (by omega) _ _ | refine Fr.drewN ?_ _ | refine Fr.drew ?_))
  clear hw1
  have h1 := H.out.keep0 hF
  have p1 := h1.p1
  have hz : ∀ i, FtP q v tv i → i ≠ w.heap.size := fun i hi e => by have := H.out.lt hi; omega
  have hpT := h1.pT
  generalize w.heap.size = z at *
  have hzT : ¬ TB q.tb tv z := fun e => hz z (.inr (.inr e)) rfl
  clear hz
  have H1 := Lib.hid h1; clear h1; have HF := Lib.hid hF; clear hF; have HPT := Lib.hid hpT; clear hpT; have HZT := Lib.hid hzT; clear hzT
  go_wp2_with fail
  refine (Node_yes _ _ a0 a1).mono ?_; rintro e w' ⟨rfl, rfl⟩
  by_cases hn : n = 0
  · have hnb : (n == 0) = true := by simpa using hn
    have hH := HO.out
    unfold Fb.ownH at hH
    rw [if_pos hn] at hH
    subst hH
    clear hn
    go_wp2_with fail
    go_region_held3 (fun W => W.cell? ⟨q.p, 1, none⟩ = some (.pointer (some ⟨q.tb, 0, none⟩)) ∧ W.cell? ⟨z, 4, none⟩ = some (.int .i64 pl) ∧ W.cell? ⟨z, 5, none⟩ = some (.int .i64 pb))
      (first | exact ⟨p1, d4, d5⟩ | exact ⟨ep, e4, e5⟩)
      (first | (go_at_call 45; refine (HDO.out _ (-2) HF.out.drew).mono ?_; rintro e w2 ⟨rfl, v', ha, hf, hg⟩; have ep := cell_fr' hf p1 HPT.out; have e4 := cell_fr' hf d4 HZT.out; have e5 := cell_fr' hf d5 HZT.out; have HA := Lib.hid ha; have HF2 := Lib.hid hf; have HG := Lib.hid hg; clear ha hf hg))
    go_wp2
    go_ret
    refine ⟨v, v', rfl, (H1.out.keep0 (Fr.refl _ _).drew).setTab HA.out HF2.out, ?_, fun i hi => FtP.tab (fun g hg => ?_) hi⟩
    · exact (HF.out.drew.mono (fun _ _ h => h.elim)).trans (HF2.out.mono (fun i _ hi => .inr (.inr hi)))
    · rcases HG.out g hg with e | e
      · exact .inl e
      · exact .inr (Nat.le_trans HF.out.size e)
  · have hnb : (n == 0) = false := by simpa using hn
    have hH := HO.out
    unfold Fb.ownH at hH
    rw [if_neg hn] at hH
    subst hH
    clear hn
    go_wp2_with fail
    go_region_held3 (fun W => W.cell? ⟨q.p, 1, none⟩ = some (.pointer (some ⟨q.tb, 0, none⟩)) ∧ W.cell? ⟨z, 4, none⟩ = some (.int .i64 pl) ∧ W.cell? ⟨z, 5, none⟩ = some (.int .i64 pb))
      (first | exact ⟨p1, d4, d5⟩ | exact ⟨ep, e4, e5⟩)
      (first | (go_at_call 45; refine (HDO.out _ a HF.out.drew).mono ?_; rintro e w2 ⟨rfl, v', ha, hf, hg⟩; have ep := cell_fr' hf p1 HPT.out; have e4 := cell_fr' hf d4 HZT.out; have e5 := cell_fr' hf d5 HZT.out; have HA := Lib.hid ha; have HF2 := Lib.hid hf; have HG := Lib.hid hg; clear ha hf hg))
    go_wp2
    go_ret
    refine ⟨v, v', rfl, (H1.out.keep0 (Fr.refl _ _).drew).setTab HA.out HF2.out, ?_, fun i hi => FtP.tab (fun g hg => ?_) hi⟩
    · exact (HF.out.drew.mono (fun _ _ h => h.elim)).trans (HF2.out.mono (fun i _ hi => .inr (.inr hi)))
    · rcases HG.out g hg with e | e
      · exact .inl e
      · exact .inr (Nat.le_trans HF.out.size e)
theorem PDo_any (q : PIds) (v tv : Value) (s : Fb.PT) (k a b n pl pb : Int) (m : Nat) (w : World) (hs : Fb.POk s m) (hm : m ≤ 1000) (h : PAt w q v tv s) : PDoSaid q v tv s k a b n pl pb w := by
  by_cases h7 : k = 7
  · subst h7
    by_cases ha : Nt.isN a
    · exact PDo_own q v tv s a b n pl pb w ha hs.o h
    · exact PDo_no q v tv s a b n pl pb w ha h
  · exact PDo_net q v tv s k a b n pl pb m w h7 hs.str.ok hm h
end Go.Proofs.YteedndapbfihaaaGreat
/- Walks: handpostlaw.posts. -/
namespace Go.Proofs.YteedndapbfihaaaGreat
open Go.RowKit Go.Deep

/-- A post and a town, apart. -/
structure PTwo (w : World) (q : PIds) (v tv : Value) (y : TIds) (u : Value) (a : Option Addr) (s s' : Fb.PT) (wr : World) : Prop where
  p : PR w q v tv s wr
  t : TwR w y u a s' wr
  ap : ∀ i, FtP q v tv i → ¬ FtW y u a i
theorem PTwo.keep {w wr wx : World} {q : PIds} {v tv : Value} {y : TIds} {u : Value} {a : Option Addr} {s s' : Fb.PT} (h : PTwo w q v tv y u a s s' wr) (hf : Fr NoB wr wx) : PTwo w q v tv y u a s s' wx := ⟨h.p.keep hf, h.t.keep hf, h.ap⟩
theorem PTwo.p_step {w wr wx : World} {q : PIds} {v tv v' tv' : Value} {y : TIds} {u : Value} {a : Option Addr} {s s1 s' : Fb.PT} (h : PTwo w q v tv y u a s s' wr) (ha : PAt wx q v' tv' s1) (hf : Fr (FtP q v tv) wr wx) (hg : ∀ i, FtP q v' tv' i → FtP q v tv i ∨ wr.heap.size ≤ i) : PTwo w q v' tv' y u a s1 s' wx := by
  refine ⟨h.p.step ha hf hg, ⟨h.t.at_.keep hf (fun i hi h' => h.ap i h' hi), (h.p.step ha hf hg).f, h.t.new⟩, fun i hi hy => ?_⟩
  have hl := h.t.at_.lt hy
  rcases hg i hi with h' | h'
  · exact h.ap i h' hy
  · omega
theorem PTwo.t_step {w wr wx : World} {q : PIds} {v tv : Value} {y : TIds} {u u' o' : Value} {a a' : Option Addr} {s s' s1 : Fb.PT} (h : PTwo w q v tv y u a s s' wr) (ha : TwAt wx { y with own := o' } u' a' s1) (hf : Fr (FtT y u) wr wx) (hg : ∀ i, FtW { y with own := o' } u' a' i → FtW y u a i ∨ wr.heap.size ≤ i) : PTwo w q v tv { y with own := o' } u' a' s s1 wx := by
  refine ⟨⟨h.p.at_.keep hf (fun i hi h' => h.ap i hi (.inl h')), (h.t.step ha hf hg).f, h.p.new⟩, h.t.step ha hf hg, fun i hi hy => ?_⟩
  have hl := h.p.at_.lt hi
  rcases hg i hy with h' | h'
  · exact h.ap i hi h'
  · omega
def PostsRel (X : Nat → Int) (n : Nat) (w : World) (q : PIds) (y : TIds) (ok i : Value) (wr : World) : Prop :=
  ∃ (k : Nat) (v tv u o : Value) (a : Option Addr), k ≤ n ∧ ok = .bool true ∧ i = .int .i64 k ∧ PTwo w q v tv { y with own := o } u a (Fb.runF Fb.begunP X k) (Fb.runF Fb.begunP X k) wr
def PostsPost (X : Nat → Int) (n : Nat) (w : World) (e : Ending) (w' : World) : Prop :=
  ∃ (q : PIds) (v tv : Value) (y : TIds) (u : Value) (a : Option Addr), e = .returned (.tuple #[.pointer (some ⟨q.p, 0, none⟩), .pointer (some ⟨y.b, 0, none⟩), .bool true]) ∧ PTwo w q v tv y u a (Fb.runF Fb.begunP X n) (Fb.runF Fb.begunP X n) w'
set_option maxRecDepth 100000 in
set_option maxHeartbeats 8000000 in
theorem posts_any (a0 : Option Addr) (n c : Nat) (X : Nat → Int) (w : World) (hn : n ≤ 200) (hX : Rd w a0 (n * 6) X) :
    Calls Tryz.prog 13 #[.slice a0 n c] w (PostsPost X n w) := by
  have HX := Lib.hid hX; clear hX
  go_enter Tryz.func13, Tryz.ntmps13
  go_wp2_with fail
  refine (NewP _).mono ?_
  rintro e w1 ⟨q, v, tv, rfl, h1⟩
  have H1 := Lib.hid h1; clear h1
  go_wp2_with fail
  refine (NewTn _).mono ?_
  rintro e w2 ⟨y, u, rfl, hn2, hf, hnew, hown⟩
  have hz := H1.out.f.size
  have h2 : PTwo w q v tv y u none Fb.begunP Fb.begunP w2 :=
    ⟨H1.out.keep hf, ⟨⟨hn2, ⟨0, hown⟩, Rs.nil _ _, fun p hp => by cases hp⟩, H1.out.f.trans hf, fun i hi => by
      rcases hi with hi | ⟨p, hp, _⟩
      · have := hnew i hi; omega
      · cases hp⟩, fun i hi hy => by
      rcases hy with hy | ⟨p, hp, _⟩
      · have := hnew i hy; have := H1.out.at_.lt hi; omega
      · cases hp⟩
  clear hn2 hf hnew hown hz H1
  have H2 := Lib.hid h2; clear h2
  go_wp2
  go_loopw [7, 8] (fun ok i wr => PostsRel X n w q y ok i wr) (fun _ i _ => n - (intOf i).toNat)
  case atStart => exact ⟨0, v, tv, u, y.own, none, by omega, rfl, rfl, H2.out⟩
  case round =>
    clear H2
    obtain ⟨k, v, tv, u, o, a, hk, rfl, rfl, h2⟩ := hrel
    have H := Lib.hid h2; clear h2
    have HR := Lib.hid (Fb.POk.runF Fb.POk.begun X k)
    by_cases hkn : k < n
    · have hkb : decide ((k : Int) < (n : Int)) = true := by simp; omega
      obtain ⟨b0, o0, rfl, c0⟩ := HX.out (k * 6) (by omega)
      obtain ⟨b1, o1, e1, c1⟩ := HX.out (k * 6 + 1) (by omega)
      obtain ⟨b2, o2, e2, c2⟩ := HX.out (k * 6 + 2) (by omega)
      obtain ⟨b3, o3, e3, c3⟩ := HX.out (k * 6 + 3) (by omega)
      obtain ⟨b4, o4, e4, c4⟩ := HX.out (k * 6 + 4) (by omega)
      obtain ⟨b5, o5, e5, c5⟩ := HX.out (k * 6 + 5) (by omega)
      cases e1; cases e2; cases e3; cases e4; cases e5
      have hst : Fb.runF Fb.begunP X (k + 1) = (Fb.doP (Fb.runF Fb.begunP X k) (X (k * 6)) (X (k * 6 + 1)) (X (k * 6 + 2)) (X (k * 6 + 3)) (X (k * 6 + 4)) (X (k * 6 + 5))).1 := rfl
      generalize X (k * 6) = x0 at *
      generalize X (k * 6 + 1) = x1 at *
      generalize X (k * 6 + 2) = x2 at *
      generalize X (k * 6 + 3) = x3 at *
      generalize X (k * 6 + 4) = x4 at *
      generalize X (k * 6 + 5) = x5 at *
      generalize hS1 : Fb.runF Fb.begunP X (k + 1) = S1 at *
      generalize Fb.runF Fb.begunP X k = S at *
      have HS1 := Lib.hid hS1; clear hS1
      obtain ⟨cc, hcc⟩ : ∃ cc, (Fb.doP S x0 x1 x2 x3 x4 x5).2 = cc := ⟨_, rfl⟩
      have hb0 : b0 < w.heap.size := World.block_lt_of_cell? w _ c0
      have c0 := cell_fr H.out.p.f c0 (fun h => h)
      have c1 := cell_fr H.out.p.f c1 (fun h => h)
      have c2 := cell_fr H.out.p.f c2 (fun h => h)
      have c3 := cell_fr H.out.p.f c3 (fun h => h)
      have c4 := cell_fr H.out.p.f c4 (fun h => h)
      have c5 := cell_fr H.out.p.f c5 (fun h => h)
      rw [← Nat.add_assoc] at c1 c2 c3 c4 c5
      have hpd : ∀ (v tv : Value) (W : World), PAt W q v tv S → Calls Tryz.prog 28 #[.pointer (some ⟨q.p, 0, none⟩), .agg #[.int .i64 x0, .int .i64 x1, .int .i64 x2, .int .i64 x3, .int .i64 x4, .int .i64 x5]] W (PDo q v tv S1 cc W) := fun v tv W h => by
        have := PDo_any q v tv S x0 x1 x2 x3 x4 x5 (0 + k) W HR.out (by omega) h
        unfold PDoSaid at this
        rw [← hst, hcc] at this
        exact this
      have htd : ∀ (o u : Value) (a : Option Addr) (W : World), TwAt W { y with own := o } u a S → Calls Tryz.prog 42 #[.pointer (some ⟨y.b, 0, none⟩), .agg #[.int .i64 x0, .int .i64 x1, .int .i64 x2, .int .i64 x3, .int .i64 x4, .int .i64 x5]] W (TwDo { y with own := o } u a S1 cc W) := fun o u a W h => by
        have := TwDo_any { y with own := o } u a S x0 x1 x2 x3 x4 x5 (0 + k) W HR.out (by omega) h
        unfold TwSaid at this
        rw [← hst, hcc] at this
        exact this
      have hce : (cc == cc) = true := by simp
      clear hst hcc
      have HPD := Lib.hid hpd; clear hpd; have HTD := Lib.hid htd; clear htd; have HB0 := Lib.hid hb0; clear hb0
      go_wp2_with fail
      go_region_held3 (fun W => W.cell? ⟨b0, o0 + k * 6, none⟩ = some (.int .i64 x0) ∧ W.cell? ⟨b0, o0 + k * 6 + 1, none⟩ = some (.int .i64 x1) ∧ W.cell? ⟨b0, o0 + k * 6 + 2, none⟩ = some (.int .i64 x2) ∧ W.cell? ⟨b0, o0 + k * 6 + 3, none⟩ = some (.int .i64 x3) ∧ W.cell? ⟨b0, o0 + k * 6 + 4, none⟩ = some (.int .i64 x4) ∧ W.cell? ⟨b0, o0 + k * 6 + 5, none⟩ = some (.int .i64 x5))
        (first | exact ⟨c0, c1, c2, c3, c4, c5⟩ | exact ⟨s0, s1, s2, s3, s4, s5⟩ | exact ⟨t0, t1, t2, t3, t4, t5⟩)
        (first | (go_at_call 28; refine (HPD.out v tv _ (by exact (H.out.keep (Fr.refl _ _).drew).p.at_)).mono ?_; rintro e w4 ⟨v4, tv4, rfl, ha, hf, hg⟩; have hno : ∀ (a : Addr), a.block = b0 → ¬ FtP q v tv a.block := (fun a e h => by have := H.out.p.new _ h; have := HB0.out; omega); have h4 := (H.out.keep (Fr.refl _ _).drew).p_step ha hf hg; have s0 := cell_fr hf c0 (hno _ rfl); have s1 := cell_fr hf c1 (hno _ rfl); have s2 := cell_fr hf c2 (hno _ rfl); have s3 := cell_fr hf c3 (hno _ rfl); have s4 := cell_fr hf c4 (hno _ rfl); have s5 := cell_fr hf c5 (hno _ rfl); clear ha hf hg hno; have H4 := Lib.hid h4; clear h4) | (go_at_call 42; refine (HTD.out o u a _ (by exact H4.out.t.at_)).mono ?_; rintro e w5 ⟨o5, u5', a5, rfl, ha, hf, hg⟩; have hno : ∀ (a' : Addr), a'.block = b0 → ¬ FtT { y with own := o } u a'.block := (fun a' e h => by have := H4.out.t.new _ (.inl h); have := HB0.out; omega); have h5 := H4.out.t_step ha hf hg; have t0 := cell_fr hf s0 (hno _ rfl); have t1 := cell_fr hf s1 (hno _ rfl); have t2 := cell_fr hf s2 (hno _ rfl); have t3 := cell_fr hf s3 (hno _ rfl); have t4 := cell_fr hf s4 (hno _ rfl); have t5 := cell_fr hf s5 (hno _ rfl); clear ha hf hg hno; have H5 := Lib.hid h5; clear h5))
      clear H4 H HR HPD HTD c0 c1 c2 c3 c4 c5 s0 s1 s2 s3 s4 s5 t0 t1 t2 t3 t4 t5
      go_wp2
      go_roundw
      case rel => exact ⟨k + 1, v4, tv4, u5', o5, a5, by omega, rfl, by go_num, by rw [HS1.out]; exact H5.out⟩
      case measure => simp [intOf]; omega
    · obtain rfl : k = n := by omega
      have hkb : decide ((k : Int) < (k : Int)) = false := by simp
      go_wp2
      refine bodyPost_ret (v := .tuple #[.pointer (some ⟨q.p, 0, none⟩), .pointer (some ⟨y.b, 0, none⟩), .bool true]) ?_ rfl ⟨q, v, tv, { y with own := o }, u, a, rfl, H.out⟩
      simp [results, Tryz.results13, go_sem]
end Go.Proofs.YteedndapbfihaaaGreat
