/- A town in memory; Map.Set within it. -/
import Derived.Test.YteedndapbfihaaaGreatB11
import Derived.Test.YteedndapbfihaaaGreatB12
namespace Go.Proofs.YteedndapbfihaaaGreat
open Go.RowKit Go.Deep

structure TIds where
  b : Nat
  N : Nat → Nat
  own : Value
def tnF (y : TIds) (u : Value) (C : Nat → Nat → Int) (i : Nat) : Value := if i < 36 then .int .i64 (C (i / 6) (i % 6)) else if i < 42 then .pointer (some ⟨y.N (i - 36), 0, none⟩) else if i = 42 then u else y.own
def FtT (y : TIds) (u : Value) (i : Nat) : Prop := i = y.b ∨ (∃ k, k < 6 ∧ i = y.N k) ∨ u.ownBlock = some i
structure TnAt (w : World) (y : TIds) (u : Value) (t : Nt.NT) : Prop where
  row : w.rowIs y.b 38 44 (tnF y u t.C)
  node : ∀ k, k < 6 → NAt w (y.N k) 151 (t.N k)
  news : SlN w 0 u t.news.length (nwI t.news)
  inj : ∀ j k, j < 6 → k < 6 → y.N j = y.N k → j = k
section
variable {w : World} {y : TIds} {u : Value} {t : Nt.NT} (h : TnAt w y u t)
include h
theorem TnAt.cM {a b : Nat} (ha : a < 6) (hb : b < 6) : w.cell? ⟨y.b, a * 6 + b, none⟩ = some (.int .i64 (t.C a b)) := by
  have := World.rowIs.cell h.row (i := a * 6 + b) (by omega)
  rw [tnF, if_pos (by omega), show (a * 6 + b) / 6 = a from by omega, show (a * 6 + b) % 6 = b from by omega] at this
  exact this
theorem TnAt.cN {k : Nat} (hk : k < 6) : w.cell? ⟨y.b, 36 + k, none⟩ = some (.pointer (some ⟨y.N k, 0, none⟩)) := by
  have := World.rowIs.cell h.row (i := 36 + k) (by omega)
  rw [tnF, if_neg (by omega), if_pos (by omega), show 36 + k - 36 = k from by omega] at this
  exact this
theorem TnAt.c42 : w.cell? ⟨y.b, 42, none⟩ = some u := World.rowIs.cell h.row (i := 42) (by omega)
theorem TnAt.fz (i : Nat) : w.frozen? ⟨y.b, i, none⟩ = false := World.rowIs.frozen h.row i
theorem TnAt.bN {k : Nat} (hk : k < 6) : y.b ≠ y.N k := rows_apart h.row (h.node k hk) (by decide)
theorem TnAt.bv : ¬ u.ownBlock = some y.b := row_own_apart h.row h.news (by decide)
theorem TnAt.Nv {k : Nat} (hk : k < 6) : ¬ u.ownBlock = some (y.N k) := row_own_apart (h.node k hk) h.news (by decide)
theorem TnAt.lt {i : Nat} (hi : FtT y u i) : i < w.heap.size := by
  rcases hi with rfl | ⟨k, hk, rfl⟩ | hi
  · exact World.rowIs.lt h.row
  · exact (h.node k hk).lt
  · exact (World.ownsRow.lt h.news i hi).2
theorem TnAt.keep {S : Nat → Prop} {w' : World} (hf : Fr S w w') (hS : ∀ i, FtT y u i → ¬ S i) : TnAt w' y u t :=
  ⟨hf.row h.row (hS _ (.inl rfl)), fun k hk => (h.node k hk).keep hf (hS _ (.inr (.inl ⟨k, hk, rfl⟩))), own_keep h.news hf (fun g hg => hS g (.inr (.inr hg))), h.inj⟩
theorem TnAt.keep0 {w' : World} (hf : Fr NoB w w') : TnAt w' y u t := h.keep hf (fun _ _ h => h)
theorem TnAt.setN {k : Nat} (hk : k < 6) {w' : World} {s : Nd.NS} (hs : NAt w' (y.N k) 151 s) (hf : Fr (OneB (y.N k)) w w') : TnAt w' y u { t with N := Nt.upN t.N k s } where
  row := hf.row h.row (fun e => h.bN hk e)
  node j hj := by
    show NAt w' (y.N j) _ (Nt.upN t.N k s j)
    by_cases e : j = k
    · subst e; rw [Nt.upN_same]; exact hs
    · rw [Nt.upN_other _ _ _ _ e]; exact (h.node j hj).keep hf (fun e' => e (h.inj j k hj hk e'))
  news := own_keep h.news hf (fun g hg e => by cases e; exact h.Nv hk hg)
  inj := h.inj
theorem TnAt.setV {w' : World} {u' : Value} {l : List Nt.Nw} (hv : SlN w' 0 u' l.length (nwI l)) (hf : Fr (fun i => u.ownBlock = some i) w w') : TnAt (w'.setCell ⟨y.b, 42, none⟩ u') y u' { t with news := l } := by
  have hrow := hf.row h.row h.bv
  have hb : ¬ u'.ownBlock = some y.b := row_own_apart hrow hv (by decide)
  have hfs : Fr (OneB y.b) w' (w'.setCell ⟨y.b, 42, none⟩ u') := (Fr.refl _ _).set1 _ _
  refine ⟨(World.rowIs.set hrow 42 u').congr (fun i hi => ?_), fun k hk => ((h.node k hk).keep hf (h.Nv hk)).keep hfs (fun e => h.bN hk e.symm), own_keep hv hfs (fun g hg e => by cases e; exact hb hg), h.inj⟩
  unfold tnF
  by_cases e : i = 42
  · subst e; simp
  · rw [if_neg e]
    by_cases e0 : i < 36
    · rw [if_pos e0, if_pos e0]
    · rw [if_neg e0, if_neg e0]
      by_cases e1 : i < 42
      · rw [if_pos e1, if_pos e1]
      · rw [if_neg e1, if_neg e1, if_neg e, if_neg e]
/-- A link set. -/
theorem TnAt.setM {p q : Nat} (hp : p < 6) (hq : q < 6) (v : Int) : TnAt ((w.setCell ⟨y.b, p * 6 + q, none⟩ (.int .i64 v)).setCell ⟨y.b, q * 6 + p, none⟩ (.int .i64 v)) y u { t with C := setC t.C p q v } := by
  have hf : Fr (OneB y.b) w ((w.setCell ⟨y.b, p * 6 + q, none⟩ (.int .i64 v)).setCell ⟨y.b, q * 6 + p, none⟩ (.int .i64 v)) := ((Fr.refl _ _).set1 _ _).set1 _ _
  refine ⟨(World.rowIs.set (World.rowIs.set h.row (p * 6 + q) _) (q * 6 + p) _).congr (fun i hi => ?_), fun k hk => (h.node k hk).keep hf (fun e => h.bN hk e.symm), own_keep h.news hf (fun g hg e => by cases e; exact h.bv hg), h.inj⟩
  unfold tnF
  show _ = (if i < 36 then Value.int .i64 (setC t.C p q v (i / 6) (i % 6)) else _)
  unfold setC updC
  by_cases e : i = q * 6 + p
  · subst e
    rw [if_pos rfl, if_pos (by omega), if_pos ⟨by omega, by omega⟩]
  · rw [if_neg e]
    by_cases e1 : i = p * 6 + q
    · subst e1
      rw [if_pos rfl, if_pos (by omega), if_neg (by omega), if_pos ⟨by omega, by omega⟩]
    · rw [if_neg e1]
      by_cases e0 : i < 36
      · rw [if_pos e0, if_pos e0, if_neg (by omega), if_neg (by omega)]
      · rw [if_neg e0, if_neg e0]
end
theorem TnAt.drewN {w : World} {y : TIds} {u : Value} {t : Nt.NT} (h : TnAt w y u t) (n : Nat) : TnAt (w.drewN n) y u t := ⟨h.row, h.node, h.news, h.inj⟩
def TnDo (y : TIds) (u : Value) (t : Nt.NT) (c : Int) (w : World) (e : Ending) (w' : World) : Prop :=
  ∃ u', e = .returned (.int .i64 c) ∧ TnAt w' y u' t ∧ Fr (FtT y u) w w' ∧ ∀ g, u'.ownBlock = some g → u.ownBlock = some g ∨ w.heap.size ≤ g
theorem TnDo.none {y : TIds} {u : Value} {t : Nt.NT} {c : Int} {w w' : World} (h : TnAt w' y u t) (hf : Fr (FtT y u) w w') : TnDo y u t c w (.returned (.int .i64 c)) w' := ⟨u, rfl, h, hf, fun _ hg => .inl hg⟩
theorem TnDo.after {y : TIds} {u : Value} {t : Nt.NT} {c : Int} {w w0 w' : World} {e : Ending} (hf : Fr NoB w w0) (h : TnDo y u t c w0 e w') : TnDo y u t c w e w' := by
  obtain ⟨v', he, ha, hf', hg⟩ := h
  exact ⟨v', he, ha, (hf.mono (fun _ _ h => h.elim)).trans hf', fun g hg' => by rcases hg g hg' with h | h; exact .inl h; exact .inr (by have := hf.size; omega)⟩
theorem FtT.grow {y : TIds} {u u0 : Value} {n i : Nat} (h : ∀ g, u.ownBlock = some g → u0.ownBlock = some g ∨ n ≤ g) (hi : FtT y u i) : FtT y u0 i ∨ n ≤ i := by
  rcases hi with hi | hi | hi
  · exact .inl (.inl hi)
  · exact .inl (.inr (.inl hi))
  · rcases h i hi with h | h
    · exact .inl (.inr (.inr h))
    · exact .inr h
theorem Fr.growT {y : TIds} {u u0 : Value} {w wr w' : World} (h1 : Fr (FtT y u0) w wr) (h : ∀ g, u.ownBlock = some g → u0.ownBlock = some g ∨ w.heap.size ≤ g) (h2 : Fr (FtT y u) wr w') : Fr (FtT y u0) w w' :=
  h1.trans' h2 (fun i hi h' => by rcases FtT.grow h h' with h | h; exact h; omega)
set_option maxHeartbeats 1000000 in
theorem MSet_at (b x y : Nat) (v : Int) (z1 z2 : Int) (w : World) (hx : x < 6) (hy : y < 6) (hxy : x ≠ y) (h0 : 0 ≤ v) (h1 : v ≤ 15)
    (c1 : w.cell? ⟨b, x * 6 + y, none⟩ = some (.int .i64 z1)) (c2 : w.cell? ⟨b, y * 6 + x, none⟩ = some (.int .i64 z2)) (f1 : w.frozen? ⟨b, x * 6 + y, none⟩ = false) (f2 : w.frozen? ⟨b, y * 6 + x, none⟩ = false) :
    Calls Tryz.prog 68 #[.pointer (some ⟨b, 0, none⟩), .int .i64 x, .int .i64 y, .int .i64 v] w fun e w' => e = .returned (.int .i64 0) ∧ w' = (w.setCell ⟨b, x * 6 + y, none⟩ (.int .i64 v)).setCell ⟨b, y * 6 + x, none⟩ (.int .i64 v) := by
  have hb : ((x : Int) == (y : Int)) = false := by simp; omega
  go_enter Tryz.func68, Tryz.ntmps68
  go_wp2_with (first | (go_at_call 20; refine (RNode_yes _ _ (by omega) (by omega)).mono ?_; rintro e w' ⟨rfl, rfl⟩))
  go_ret
  exact ⟨rfl, rfl⟩
end Go.Proofs.YteedndapbfihaaaGreat
/- Walks over the reference's town: tell, Way, NewTown. -/
namespace Go.Proofs.YteedndapbfihaaaGreat
open Go.RowKit Go.Deep

set_option maxRecDepth 100000 in
set_option maxHeartbeats 4000000 in
theorem Ttell_any (y : TIds) (u : Value) (t : Nt.NT) (a b : Int) (m : Nat) (w : World) (hr : Nt.NOk t m) (h : TnAt w y u t) :
    Calls Tryz.prog 71 #[.pointer (some ⟨y.b, 0, none⟩), .int .i64 a, .int .i64 b] w (TnDo y u (Nt.tellT t a b).1 (Nt.tellT t a b).2 w) := by
  by_cases ha : Nt.isN a
  · by_cases hb : Nt.isN b
    · obtain ⟨p, rfl⟩ := Int.eq_ofNat_of_zero_le ha.1
      obtain ⟨q, rfl⟩ := Int.eq_ofNat_of_zero_le hb.1
      have hp : p < 6 := by have := ha.2; omega
      have hq : q < 6 := by have := hb.2; omega
      have hab : ¬ ¬ (Nt.isN p ∧ Nt.isN q) := fun h => h ⟨ha, hb⟩
      clear ha hb
      have cM := h.cM hp hq
      have H := Lib.hid h; clear h; have HR := Lib.hid hr; clear hr
      by_cases hz : t.C p q = 0
      · have e : Nt.tellT t p q = (t, 6) := by rw [Nt.tellT, if_neg hab, Int.toNat_natCast, Int.toNat_natCast, if_pos hz]
        rw [e]
        have hzb : (t.C p q == 0) = true := by simp [hz]
        clear e hab hz
        go_enter Tryz.func71, Tryz.ntmps71
        go_wp2_with (first | (go_at_call 20; refine (RNode_yes _ _ (by omega) (by omega)).mono ?_; rintro e w' ⟨rfl, rfl⟩))
        go_ret
        exact TnDo.none H.out (Fr.refl _ _)
      · have hzb : (t.C p q == 0) = false := by simpa using hz
        obtain ⟨av, cv, rfl, j⟩ := ownsRow_rd H.out.news
        clear j
        have c42 := H.out.c42
        have hl40 := HR.out.len
        have hsum := IntWalk.i64_in ((t.news.length : Int) + 6) (by omega)
        by_cases hl : 40 < t.news.length + 6
        · have e : Nt.tellT t p q = (t, 9) := by rw [Nt.tellT, if_neg hab, Int.toNat_natCast, Int.toNat_natCast, if_neg hz, if_pos hl]
          rw [e]
          clear e hab hz
          have hlb : decide ((40 : Int) < (t.news.length : Int) + 6) = true := by simp; omega
          have HL40 := Lib.hid hl40; clear hl40
          clear hl
          go_enter Tryz.func71, Tryz.ntmps71
          go_wp2_with (first | (go_at_call 20; refine (RNode_yes _ _ (by omega) (by omega)).mono ?_; rintro e w' ⟨rfl, rfl⟩))
          go_ret
          exact TnDo.none H.out (Fr.refl _ _)
        · have e : Nt.tellT t p q = ({ t with news := t.news ++ Nt.tellW (t.N p) q 6 }, 0) := by rw [Nt.tellT, if_neg hab, Int.toNat_natCast, Int.toNat_natCast, if_neg hz, if_neg hl]
          rw [e]
          clear e hab hz
          have hlb : decide ((40 : Int) < (t.news.length : Int) + 6) = false := by simp; omega
          have HL40 := Lib.hid hl40; clear hl40
          clear hl
          have c1 := H.out.cN hp
          go_enter Tryz.func71, Tryz.ntmps71
          go_wp2_with (first | (go_at_call 20; refine (RNode_yes _ _ (by omega) (by omega)).mono ?_; rintro e w' ⟨rfl, rfl⟩))
          have hwd : w.drew.heap.size = w.heap.size := rfl
          have hpi : (p : Int) < 6 := by omega
          have key : ∀ (w1 : World) (v1 : Value), SlN w1 w.heap.size v1 6 (Nd.tellL (t.N p) q 6) → Fr NoB w w1 → TnAt w1 y (.slice av t.news.length cv) t ∧ w1.cell? ⟨y.b, 42, none⟩ = some (.slice av t.news.length cv) ∧ w1.frozen? ⟨y.b, 42, none⟩ = false ∧ ∃ g1 cap1, v1 = .slice (some ⟨g1, 0, none⟩) 6 cap1 := by
            intro w1 v1 hv1 hf
            refine ⟨H.out.keep0 hf, cell_fr hf c42 (fun h => h), World.rowIs.frozen (hf.row H.out.row (fun h => h)) 42, ?_⟩
            rcases hv1.2 with ⟨_, h0⟩ | ⟨g, cap, cur, h2, _⟩
            · omega
            · exact ⟨g, cap, h2⟩
          have key2 : ∀ (w1 : World), TnAt w1 y (.slice av t.news.length cv) t → Fr NoB w w1 → ∀ (g cap : Nat) (w2 : World), w2.ownsRow 0 112 5 (.slice (some ⟨g, 0, none⟩) (t.news.length + 6) cap) (t.news.length + 6) ((nwI t.news).map (Value.int .i64) ++ (Nd.tellL (t.N p) q 6).map (Value.int .i64)) → Fr (fun i => (Value.slice av t.news.length cv).ownBlock = some i) w1 w2 → ((Value.slice av t.news.length cv).ownBlock = some g ∨ w1.heap.size ≤ g) →
              w2.cell? ⟨y.b, 42, none⟩ = some (.slice av t.news.length cv) ∧ w2.frozen? ⟨y.b, 42, none⟩ = false ∧ Hid (TnDo y (.slice av t.news.length cv) { t with news := t.news ++ Nt.tellW (t.N p) q 6 } 0 w (.returned (.int .i64 0)) (w2.setCell ⟨y.b, 42, none⟩ (.slice (some ⟨g, 0, none⟩) (t.news.length + 6) cap))) := by
            intro w1 h1 hf1 g cap w2 h2 hf hlie
            have hll : (t.news ++ Nt.tellW (t.N p) q 6).length = t.news.length + 6 := by rw [List.length_append, Nt.tellW_len]
            have hv2 : SlN w2 0 (.slice (some ⟨g, 0, none⟩) (t.news.length + 6) cap) (t.news ++ Nt.tellW (t.N p) q 6).length (nwI (t.news ++ Nt.tellW (t.N p) q 6)) := by
              rw [hll, nwI_app, ← nwI_tell]
              unfold SlN
              rw [List.map_append]
              exact h2
            refine ⟨cell_fr hf h1.c42 h1.bv, World.rowIs.frozen (hf.row h1.row h1.bv) 42, ⟨_, rfl, h1.setV hv2 hf, ((hf1.mono (fun _ _ h => h.elim)).trans (hf.mono (fun _ _ h => .inr (.inr h)))).setCell (p := ⟨y.b, 42, none⟩) (.inl (.inl rfl)) _, fun g' hg' => ?_⟩⟩
            simp only [Value.ownBlock, Option.some.injEq] at hg'
            subst hg'
            rcases hlie with h | h
            · exact .inl h
            · exact .inr (by have := hf1.size; omega)
          have KEY := Lib.hid key; clear key; have KEY2 := Lib.hid key2; clear key2
          go_region_law (first | (go_simp; go_at_call 97; refine (MTell_any (y.N p) q (t.N p) _ (by exact H.out.node p hp)).mono ?_; rintro e w1 ⟨v1, rfl, hv1, hf0⟩; have hf := (Fr.refl NoB w).drew.trans hf0; clear hf0; obtain ⟨h1, q7, qf, g1, cap1, rfl⟩ := KEY.out _ _ hv1 hf; have HV1 := Lib.hid hv1; clear hv1; have HF1 := Lib.hid hf; clear hf; have H1 := Lib.hid h1; clear h1) | (refine step_lies (by rfl) (.tmp 35) (.tmp 43) 36 112 5 40 (.agg #[.int .i64 0, .int .i64 0, .int .i64 0, .int .i64 0, .int .i64 0]) (by rfl) Tryz.underlying36 Tryz.info112 rfl (by omega) 0 (.slice av t.news.length cv) t.news.length _ (by rfl) H1.out.news ⟨g1, 0, none⟩ 6 cap1 ((Nd.tellL (t.N p) q 6).map (Value.int .i64)) (by rfl) (by rw [List.length_map, Nd.tellL_len]) (fun j u hu => news_rd HV1.out j u g1 rfl hu) (by intro u hu; obtain ⟨y, _, rfl⟩ := List.mem_map.1 hu; rfl) (by omega) (by have := HL40.out; omega) (by omega) (by omega) ?_; intro g cap w2 h2 hf hlie; obtain ⟨q7', qf', HFIN⟩ := KEY2.out _ H1.out (by exact HF1.out) g cap w2 h2 hf hlie; clear h2 hf hlie))
          all_goals (clear q7 qf q7' qf' HV1 HF1 H1; go_wp2; go_ret; exact HFIN.out)
    · have e : Nt.tellT t a b = (t, 1) := by rw [Nt.tellT, if_pos (fun h => hb h.2)]
      rw [e]
      clear e
      have H := Lib.hid h; clear h; have HR := Lib.hid hr; clear hr; have HB := Lib.hid hb; clear hb
      obtain ⟨a0, a1⟩ := ha
      go_enter Tryz.func71, Tryz.ntmps71
      go_wp2_with fail
      refine (RNode_yes _ _ a0 a1).mono ?_; rintro e w' ⟨rfl, rfl⟩
      go_wp2_with fail
      refine (RNode_no _ _ HB.out).mono ?_; rintro e w' ⟨rfl, rfl⟩
      go_wp2
      go_ret
      exact TnDo.none H.out (Fr.refl _ _)
  · have e : Nt.tellT t a b = (t, 1) := by rw [Nt.tellT, if_pos (fun h => ha h.1)]
    rw [e]
    clear e
    have H := Lib.hid h; clear h; have HR := Lib.hid hr; clear hr; have HA := Lib.hid ha; clear ha
    go_enter Tryz.func71, Tryz.ntmps71
    go_wp2_with fail
    refine (RNode_no _ _ HA.out).mono ?_; rintro e w' ⟨rfl, rfl⟩
    go_wp2
    go_ret
    exact TnDo.none H.out (Fr.refl _ _)
set_option maxRecDepth 100000 in
set_option maxHeartbeats 2000000 in
theorem TWay_any (y : TIds) (u : Value) (t : Nt.NT) (a b : Int) (w : World) (h : TnAt w y u t) :
    Calls Tryz.prog 48 #[.pointer (some ⟨y.b, 0, none⟩), .int .i64 a, .int .i64 b] w (WayFr (if Nt.isN a then Nd.wayAt (t.N a.toNat) b else Nd.noWay) w) := by
  by_cases ha : Nt.isN a
  · rw [if_pos ha]
    obtain ⟨p, rfl⟩ := Int.eq_ofNat_of_zero_le ha.1
    rw [Int.toNat_natCast]
    have hp : p < 6 := by have := ha.2; omega
    have c1 := h.cN hp
    have hbl := h.lt (.inl rfl)
    have hpi : (p : Int) < 6 := by omega
    clear ha
    have H := Lib.hid h; clear h
    go_enter Tryz.func48, Tryz.ntmps48
    go_wp2_with fail
    refine (RNode_yes _ _ (by omega) (by omega)).mono ?_; rintro e w' ⟨rfl, rfl⟩
    go_wp2_with fail
    refine (MWay_any (y.N p) b (t.N p) _ ((H.out.node p hp).alloc _)).mono ?_
    rintro e w1 ⟨rfl, hf⟩
    have hr := hf.row (rowIs_new w 3 (.int .i64 0) 47) (fun h => h)
    have hf1 : Fr NoB w w1 := ((Fr.refl _ w).alloc _).trans hf
    have z0 := World.rowIs.cell hr (i := 0) (by omega)
    have z1 := World.rowIs.cell hr (i := 1) (by omega)
    have z2 := World.rowIs.cell hr (i := 2) (by omega)
    have y0 := World.rowIs.frozen hr 0
    have y1 := World.rowIs.frozen hr 1
    have y2 := World.rowIs.frozen hr 2
    clear hf H c1 hbl
    have HF := Lib.hid hf1; clear hf1; have HR := Lib.hid hr; clear hr
    generalize hpz : w.heap.size = pz at *
    generalize hwy : Nd.wayAt (t.N p) b = wy at *
    have HWY := Lib.hid hwy; clear hwy
    obtain ⟨wa, wb, wc⟩ := wy
    unfold way3
    go_wp2
    refine bodyPost_ret (v := .agg #[.int .i64 wa, .int .i64 wb, .int .i64 wc]) ?_ rfl ⟨rfl, ((HF.out.setNew (by omega) _ _).setNew (by omega) _ _).setNew (by omega) _ _⟩
    have hR := World.rowIs.set (World.rowIs.set (World.rowIs.set HR.out 0 (.int .i64 wa)) 1 (.int .i64 wb)) 2 (.int .i64 wc)
    have s0 := World.rowIs.cell hR (i := 0) (by omega)
    have s1 := World.rowIs.cell hR (i := 1) (by omega)
    have s2 := World.rowIs.cell hR (i := 2) (by omega)
    clear hR
    generalize ((w1.setCell ⟨pz, 0, none⟩ (.int .i64 wa)).setCell ⟨pz, 1, none⟩ (.int .i64 wb)).setCell ⟨pz, 2, none⟩ (.int .i64 wc) = W5 at *
    simp at s0 s1 s2
    simp [results, Tryz.results48, go_sem, s0, s1, s2]
  · rw [if_neg ha]
    clear h
    have HA := Lib.hid ha; clear ha
    go_enter Tryz.func48, Tryz.ntmps48
    go_wp2_with fail
    refine (RNode_no _ _ HA.out).mono ?_; rintro e w' ⟨rfl, rfl⟩
    go_wp2
    refine bodyPost_ret (v := way3 Nd.noWay) ?_ rfl ⟨rfl, (Fr.refl _ _).alloc _⟩
    simp [results, Tryz.results48, go_sem, way3, Nd.noWay]
def NewTPost (w : World) (e : Ending) (w' : World) : Prop := ∃ (y : TIds) (u : Value), e = .returned (.pointer (some ⟨y.b, 0, none⟩)) ∧ TnAt w' y u Nt.begun ∧ Fr NoB w w' ∧ (∀ i, FtT y u i → w.heap.size ≤ i) ∧ y.own = .slice none 0 0
def tnF0 (N : Nat → Nat) (k : Nat) (j : Nat) : Value := if j < 36 then .int .i64 0 else if j < 42 then (if j - 36 < k then .pointer (some ⟨N (j - 36), 0, none⟩) else .pointer none) else .slice none 0 0
def NewTRel (w : World) (b : Nat) (i : Value) (wr : World) : Prop :=
  ∃ (k : Nat) (N : Nat → Nat), k ≤ 6 ∧ i = .int .i64 k ∧ wr.rowIs b 38 44 (tnF0 N k) ∧
    (∀ j, j < k → NAt wr (N j) 151 (Nd.fresh j)) ∧ (∀ j, j < k → w.heap.size ≤ N j) ∧ (∀ j l, j < k → l < k → N j = N l → j = l) ∧ w.heap.size ≤ b ∧ Fr NoB w wr
set_option maxRecDepth 100000 in
set_option maxHeartbeats 4000000 in
theorem NewTn (w : World) : Calls Tryz.prog 41 #[] w (NewTPost w) := by
  go_enter Tryz.func41, Tryz.ntmps41
  go_wp2
  refine wp_name fun w2 hw2 => ?_
  have hf : Fr NoB w w2 := by rw [hw2]; exact (Fr.refl _ _).alloc _
  have hrow : w2.rowIs w.heap.size 38 44 (tnF0 (fun _ => 0) 0) := by
    rw [hw2]
    exact World.rowIs_alloc w _ _ _ (fun i hi => by
      have hi' : i < 44 := hi
      match i, hi' with
      | 0, _ => rfl
      | 1, _ => rfl
      | 2, _ => rfl
      | 3, _ => rfl
      | 4, _ => rfl
      | 5, _ => rfl
      | 6, _ => rfl
      | 7, _ => rfl
      | 8, _ => rfl
      | 9, _ => rfl
      | 10, _ => rfl
      | 11, _ => rfl
      | 12, _ => rfl
      | 13, _ => rfl
      | 14, _ => rfl
      | 15, _ => rfl
      | 16, _ => rfl
      | 17, _ => rfl
      | 18, _ => rfl
      | 19, _ => rfl
      | 20, _ => rfl
      | 21, _ => rfl
      | 22, _ => rfl
      | 23, _ => rfl
      | 24, _ => rfl
      | 25, _ => rfl
      | 26, _ => rfl
      | 27, _ => rfl
      | 28, _ => rfl
      | 29, _ => rfl
      | 30, _ => rfl
      | 31, _ => rfl
      | 32, _ => rfl
      | 33, _ => rfl
      | 34, _ => rfl
      | 35, _ => rfl
      | 36, _ => rfl
      | 37, _ => rfl
      | 38, _ => rfl
      | 39, _ => rfl
      | 40, _ => rfl
      | 41, _ => rfl
      | 42, _ => rfl
      | 43, _ => rfl
      | n + 44, h => exact absurd h (by omega))
  clear hw2
  have hz : w.heap.size ≤ w.heap.size := Nat.le_refl _
  generalize hb' : w.heap.size = b at *
  have hz : w.heap.size ≤ b := by omega
  clear hb'
  have HF := Lib.hid hf; clear hf; have HRO := Lib.hid hrow; clear hrow; have HZ := Lib.hid hz; clear hz
  go_loopw [2] (fun i wr => NewTRel w b i wr) (fun i _ => 6 - (intOf i).toNat)
  case atStart => exact ⟨0, fun _ => 0, by omega, rfl, HRO.out, fun j h => by omega, fun j h => by omega, fun j l h => by omega, HZ.out, HF.out⟩
  case round =>
    clear HF HRO HZ
    obtain ⟨k, N, hk, rfl, hrow, hn, hN, hinj, hb, hf⟩ := hrel
    have HRO := Lib.hid hrow; clear hrow; have HN := Lib.hid hn; clear hn; have HNN := Lib.hid hN; clear hN; have HI := Lib.hid hinj; clear hinj; have HB := Lib.hid hb; clear hb; have HF := Lib.hid hf; clear hf
    by_cases hk6 : k < 6
    · have hki : (k : Int) < 6 := by omega
      have c1 := World.rowIs.cell HRO.out (i := 36 + k) (by omega)
      rw [tnF0, if_neg (by omega), if_pos (by omega), if_neg (by omega)] at c1
      have f1 := World.rowIs.frozen HRO.out (36 + k)
      go_wp2_with fail
      go_region_held3 (fun W => (W.cell? ⟨b, 36 + k, none⟩).isSome = true ∧ W.frozen? ⟨b, 36 + k, none⟩ = false)
        (first | exact ⟨congrArg Option.isSome c1, f1⟩ | exact ⟨congrArg Option.isSome t1, t2⟩ | exact ⟨congrArg Option.isSome (World.cell?_setCell_same' _ _ _ (congrArg Option.isSome t1)), World.rowIs.frozen (World.rowIs.set hro6 (36 + k) _) _⟩)
        ((go_at_call 67; refine (NewMind_any k _ hk6).mono ?_; rintro e w6 ⟨rfl, hnn, hff⟩; have hro6 := hff.row (World.rowIs.drew HRO.out) (fun h => h); have t1 := cell_fr hff c1 (fun h => h); have t2 := World.rowIs.frozen hro6 (36 + k)))
      have hnn : NAt w6 wr.heap.size 151 (Nd.fresh k) := hnn
      have hrow : (w6.setCell ⟨b, 36 + k, none⟩ (.pointer (some ⟨wr.heap.size, 0, none⟩))).rowIs b 38 44 (tnF0 (fun j => if j = k then wr.heap.size else N j) (k + 1)) := by
        refine (World.rowIs.set hro6 (36 + k) _).congr (fun i hi => ?_)
        unfold tnF0
        dsimp only
        by_cases e : i = 36 + k
        · subst e
          rw [if_pos rfl, if_neg (by omega), if_pos (by omega), if_pos (by omega), if_pos (by omega)]
        · rw [if_neg e]
          by_cases h0 : i < 36
          · rw [if_pos h0, if_pos h0]
          · rw [if_neg h0, if_neg h0]
            by_cases h7 : i < 42
            · rw [if_pos h7, if_pos h7]
              by_cases hk1 : i - 36 < k
              · rw [if_pos hk1, if_pos (by omega), if_neg (by omega)]
              · rw [if_neg hk1, if_neg (by omega)]
            · rw [if_neg h7, if_neg h7]
      have hbz : b < wr.heap.size := World.rowIs.lt HRO.out
      have hfs : Fr (OneB b) w6 (w6.setCell ⟨b, 36 + k, none⟩ (.pointer (some ⟨wr.heap.size, 0, none⟩))) := (Fr.refl _ _).set1 _ _
      have hwz : w.heap.size ≤ wr.heap.size := HF.out.size
      have hn2 : ∀ j, j < k + 1 → NAt (w6.setCell ⟨b, 36 + k, none⟩ (.pointer (some ⟨wr.heap.size, 0, none⟩))) (if j = k then wr.heap.size else N j) 151 (Nd.fresh j) := by
        intro j hj
        by_cases e : j = k
        · rw [if_pos e, e]; exact hnn.keep hfs (fun h : wr.heap.size = b => by omega)
        · rw [if_neg e]
          have h1 := HN.out j (by omega)
          exact (NAt.keep (w := wr.drew) (World.rowIs.drew h1) hff (fun h => h)).keep hfs (fun h : N j = b => rows_apart HRO.out h1 (by decide) h.symm)
      have hf2 : Fr NoB w (w6.setCell ⟨b, 36 + k, none⟩ (.pointer (some ⟨wr.heap.size, 0, none⟩))) := (HF.out.drew.trans hff).setNew HB.out _ _
      have hi2 : ∀ j l, j < k + 1 → l < k + 1 → (if j = k then wr.heap.size else N j) = (if l = k then wr.heap.size else N l) → j = l := by
        intro j l hj hl h
        by_cases e : j = k
        · by_cases e' : l = k
          · omega
          · rw [if_pos e, if_neg e'] at h
            have := (HN.out l (by omega)).lt
            omega
        · by_cases e' : l = k
          · rw [if_neg e, if_pos e'] at h
            have := (HN.out j (by omega)).lt
            omega
          · rw [if_neg e, if_neg e'] at h
            exact HI.out j l (by omega) (by omega) h
      clear hro6 t1 t2 hff hfs hnn c1 f1
      have HR2 := Lib.hid hrow; clear hrow; have HN2 := Lib.hid hn2; clear hn2; have HF2 := Lib.hid hf2; clear hf2; have HI2 := Lib.hid hi2; clear hi2
      go_wp2
      go_roundw
      case rel => exact ⟨k + 1, fun j => if j = k then wr.heap.size else N j, by omega, by go_num, HR2.out, HN2.out, fun j hj => by
        dsimp only
        by_cases e : j = k
        · rw [if_pos e]; exact hwz
        · rw [if_neg e]; exact HNN.out j (by omega), HI2.out, HB.out, HF2.out⟩
      case measure => simp [intOf]; omega
    · obtain rfl : k = 6 := by omega
      go_wp2
      go_ret
      refine ⟨⟨b, N, .slice none 0 0⟩, .slice none 0 0, rfl, ⟨HRO.out.congr (fun i hi => ?_), HN.out, World.ownsRow_nil _ _ _ _, fun j k hj hk h => HI.out j k hj hk h⟩, HF.out, fun i hi => ?_, rfl⟩
      · unfold tnF tnF0
        by_cases h0 : i < 36
        · rw [if_pos h0, if_pos h0]; rfl
        · rw [if_neg h0, if_neg h0]
          by_cases h7 : i < 42
          · rw [if_pos h7, if_pos h7, if_pos (by omega)]
          · rw [if_neg h7, if_neg h7]
            split <;> rfl
      · rcases hi with rfl | ⟨k, hk, rfl⟩ | hi
        · exact HB.out
        · exact HNN.out k hk
        · cases hi
end Go.Proofs.YteedndapbfihaaaGreat
