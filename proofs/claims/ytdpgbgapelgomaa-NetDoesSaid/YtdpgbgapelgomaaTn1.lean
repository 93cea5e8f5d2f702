/- A town in memory; Map.Set within it. -/
import Derived.Test.YtdpgbgapelgomaaNt9
namespace Go.Proofs.Ytdpgbgapelgomaa
open Go.RowKit Go.Deep

structure TIds where
  b : Nat
  N : Nat → Nat
def tnF (y : TIds) (u : Value) (C : Nat → Nat → Int) (i : Nat) : Value := if i < 36 then .int .i64 (C (i / 6) (i % 6)) else if i < 42 then .pointer (some ⟨y.N (i - 36), 0, none⟩) else if i = 42 then u else .slice none 0 0
def FtT (y : TIds) (u : Value) (i : Nat) : Prop := i = y.b ∨ (∃ k, k < 6 ∧ i = y.N k) ∨ u.ownBlock = some i
structure TnAt (w : World) (y : TIds) (u : Value) (t : Nt.NT) : Prop where
  row : w.rowIs y.b 120 44 (tnF y u t.C)
  node : ∀ k, k < 6 → NAt w (y.N k) 68 (t.N k)
  news : SlN w 0 u t.news.length (nwI t.news)
  inj : ∀ j k, j < 6 → k < 6 → y.N j = y.N k → j = k
section
variable {w : World} {y : TIds} {u : Value} {t : Nt.NT} (h : TnAt w y u t)
include h
theorem TnAt.cM {a b : Nat} (ha : a < 6) (hb : b < 6) : w.cell? ⟨y.b, a * 6 + b, none⟩ = some (.int .i64 (t.C a b)) := by
  have := World.rowIs.cell h.row (i := a * 6 + b) (by omega)
  rw [tnF, if_pos (by omega), show (a * 6 + b) / 6 = a from by omega, show (a * 6 + b) % 6 = b from by omega] at this
  exact this
theorem TnAt.cN {k : Nat} (hk : k < 6) : w.cell? ⟨y.b, 36 + k, none⟩ = some (.pointer (some ⟨y.N k, 0, none⟩)) := by
  have := World.rowIs.cell h.row (i := 36 + k) (by omega)
  rw [tnF, if_neg (by omega), if_pos (by omega), show 36 + k - 36 = k from by omega] at this
  exact this
theorem TnAt.c42 : w.cell? ⟨y.b, 42, none⟩ = some u := World.rowIs.cell h.row (i := 42) (by omega)
theorem TnAt.fz (i : Nat) : w.frozen? ⟨y.b, i, none⟩ = false := World.rowIs.frozen h.row i
theorem TnAt.bN {k : Nat} (hk : k < 6) : y.b ≠ y.N k := rows_apart h.row (h.node k hk) (by decide)
theorem TnAt.bv : ¬ u.ownBlock = some y.b := row_own_apart h.row h.news (by decide)
theorem TnAt.Nv {k : Nat} (hk : k < 6) : ¬ u.ownBlock = some (y.N k) := row_own_apart (h.node k hk) h.news (by decide)
theorem TnAt.lt {i : Nat} (hi : FtT y u i) : i < w.heap.size := by
  rcases hi with rfl | ⟨k, hk, rfl⟩ | hi
  · exact World.rowIs.lt h.row
  · exact (h.node k hk).lt
  · exact (World.ownsRow.lt h.news i hi).2
theorem TnAt.keep {S : Nat → Prop} {w' : World} (hf : Fr S w w') (hS : ∀ i, FtT y u i → ¬ S i) : TnAt w' y u t :=
  ⟨hf.row h.row (hS _ (.inl rfl)), fun k hk => (h.node k hk).keep hf (hS _ (.inr (.inl ⟨k, hk, rfl⟩))), own_keep h.news hf (fun g hg => hS g (.inr (.inr hg))), h.inj⟩
theorem TnAt.keep0 {w' : World} (hf : Fr NoB w w') : TnAt w' y u t := h.keep hf (fun _ _ h => h)
theorem TnAt.setN {k : Nat} (hk : k < 6) {w' : World} {s : Nd.NS} (hs : NAt w' (y.N k) 68 s) (hf : Fr (OneB (y.N k)) w w') : TnAt w' y u { t with N := Nt.upN t.N k s } where
  row := hf.row h.row (fun e => h.bN hk e)
  node j hj := by
    show NAt w' (y.N j) _ (Nt.upN t.N k s j)
    by_cases e : j = k
    · subst e; rw [Nt.upN_same]; exact hs
    · rw [Nt.upN_other _ _ _ _ e]; exact (h.node j hj).keep hf (fun e' => e (h.inj j k hj hk e'))
  news := own_keep h.news hf (fun g hg e => by cases e; exact h.Nv hk hg)
  inj := h.inj
theorem TnAt.setV {w' : World} {u' : Value} {l : List Nt.Nw} (hv : SlN w' 0 u' l.length (nwI l)) (hf : Fr (fun i => u.ownBlock = some i) w w') : TnAt (w'.setCell ⟨y.b, 42, none⟩ u') y u' { t with news := l } := by
  have hrow := hf.row h.row h.bv
  have hb : ¬ u'.ownBlock = some y.b := row_own_apart hrow hv (by decide)
  have hfs : Fr (OneB y.b) w' (w'.setCell ⟨y.b, 42, none⟩ u') := (Fr.refl _ _).set1 _ _
  refine ⟨(World.rowIs.set hrow 42 u').congr (fun i hi => ?_), fun k hk => ((h.node k hk).keep hf (h.Nv hk)).keep hfs (fun e => h.bN hk e.symm), own_keep hv hfs (fun g hg e => by cases e; exact hb hg), h.inj⟩
  unfold tnF
  by_cases e : i = 42
  · subst e; simp
  · rw [if_neg e]
    by_cases e0 : i < 36
    · rw [if_pos e0, if_pos e0]
    · rw [if_neg e0, if_neg e0]
      by_cases e1 : i < 42
      · rw [if_pos e1, if_pos e1]
      · rw [if_neg e1, if_neg e1, if_neg e, if_neg e]
/-- A link set. -/
theorem TnAt.setM {p q : Nat} (hp : p < 6) (hq : q < 6) (v : Int) : TnAt ((w.setCell ⟨y.b, p * 6 + q, none⟩ (.int .i64 v)).setCell ⟨y.b, q * 6 + p, none⟩ (.int .i64 v)) y u { t with C := setC t.C p q v } := by
  have hf : Fr (OneB y.b) w ((w.setCell ⟨y.b, p * 6 + q, none⟩ (.int .i64 v)).setCell ⟨y.b, q * 6 + p, none⟩ (.int .i64 v)) := ((Fr.refl _ _).set1 _ _).set1 _ _
  refine ⟨(World.rowIs.set (World.rowIs.set h.row (p * 6 + q) _) (q * 6 + p) _).congr (fun i hi => ?_), fun k hk => (h.node k hk).keep hf (fun e => h.bN hk e.symm), own_keep h.news hf (fun g hg e => by cases e; exact h.bv hg), h.inj⟩
  unfold tnF
  show _ = (if i < 36 then Value.int .i64 (setC t.C p q v (i / 6) (i % 6)) else _)
  unfold setC updC
  by_cases e : i = q * 6 + p
  · subst e
    rw [if_pos rfl, if_pos (by omega), if_pos ⟨by omega, by omega⟩]
  · rw [if_neg e]
    by_cases e1 : i = p * 6 + q
    · subst e1
      rw [if_pos rfl, if_pos (by omega), if_neg (by omega), if_pos ⟨by omega, by omega⟩]
    · rw [if_neg e1]
      by_cases e0 : i < 36
      · rw [if_pos e0, if_pos e0, if_neg (by omega), if_neg (by omega)]
      · rw [if_neg e0, if_neg e0]
end
theorem TnAt.drewN {w : World} {y : TIds} {u : Value} {t : Nt.NT} (h : TnAt w y u t) (n : Nat) : TnAt (w.drewN n) y u t := ⟨h.row, h.node, h.news, h.inj⟩
def TnDo (y : TIds) (u : Value) (t : Nt.NT) (c : Int) (w : World) (e : Ending) (w' : World) : Prop :=
  ∃ u', e = .returned (.int .i64 c) ∧ TnAt w' y u' t ∧ Fr (FtT y u) w w' ∧ ∀ g, u'.ownBlock = some g → u.ownBlock = some g ∨ w.heap.size ≤ g
theorem TnDo.none {y : TIds} {u : Value} {t : Nt.NT} {c : Int} {w w' : World} (h : TnAt w' y u t) (hf : Fr (FtT y u) w w') : TnDo y u t c w (.returned (.int .i64 c)) w' := ⟨u, rfl, h, hf, fun _ hg => .inl hg⟩
theorem TnDo.after {y : TIds} {u : Value} {t : Nt.NT} {c : Int} {w w0 w' : World} {e : Ending} (hf : Fr NoB w w0) (h : TnDo y u t c w0 e w') : TnDo y u t c w e w' := by
  obtain ⟨v', he, ha, hf', hg⟩ := h
  exact ⟨v', he, ha, (hf.mono (fun _ _ h => h.elim)).trans hf', fun g hg' => by rcases hg g hg' with h | h; exact .inl h; exact .inr (by have := hf.size; omega)⟩
structure TnR (w : World) (y : TIds) (u : Value) (t : Nt.NT) (wr : World) : Prop where
  at_ : TnAt wr y u t
  f : Fr NoB w wr
  new : ∀ i, FtT y u i → w.heap.size ≤ i
theorem TnR.keep {w wr wx : World} {y : TIds} {u : Value} {t : Nt.NT} (h : TnR w y u t wr) (hf : Fr NoB wr wx) : TnR w y u t wx := ⟨h.at_.keep0 hf, h.f.trans hf, h.new⟩
theorem TnR.step {w wr wx : World} {y : TIds} {u u' : Value} {t t' : Nt.NT} (h : TnR w y u t wr) (ha : TnAt wx y u' t') (hf : Fr (FtT y u) wr wx) (hg : ∀ g, u'.ownBlock = some g → u.ownBlock = some g ∨ wr.heap.size ≤ g) : TnR w y u' t' wx := by
  refine ⟨ha, h.f.trans' hf (fun i hi h' => by have := h.new i h'; omega), fun i hi => ?_⟩
  rcases hi with hi | hi | hi
  · exact h.new i (.inl hi)
  · exact h.new i (.inr (.inl hi))
  · rcases hg i hi with hi | hi
    · exact h.new i (.inr (.inr hi))
    · have := h.f.size; omega
theorem FtT.grow {y : TIds} {u u0 : Value} {n i : Nat} (h : ∀ g, u.ownBlock = some g → u0.ownBlock = some g ∨ n ≤ g) (hi : FtT y u i) : FtT y u0 i ∨ n ≤ i := by
  rcases hi with hi | hi | hi
  · exact .inl (.inl hi)
  · exact .inl (.inr (.inl hi))
  · rcases h i hi with h | h
    · exact .inl (.inr (.inr h))
    · exact .inr h
theorem Fr.growT {y : TIds} {u u0 : Value} {w wr w' : World} (h1 : Fr (FtT y u0) w wr) (h : ∀ g, u.ownBlock = some g → u0.ownBlock = some g ∨ w.heap.size ≤ g) (h2 : Fr (FtT y u) wr w') : Fr (FtT y u0) w w' :=
  h1.trans' h2 (fun i hi h' => by rcases FtT.grow h h' with h | h; exact h; omega)
set_option maxHeartbeats 1000000 in
theorem MSet_at (b x y : Nat) (v : Int) (z1 z2 : Int) (w : World) (hx : x < 6) (hy : y < 6) (hxy : x ≠ y) (h0 : 0 ≤ v) (h1 : v ≤ 15)
    (c1 : w.cell? ⟨b, x * 6 + y, none⟩ = some (.int .i64 z1)) (c2 : w.cell? ⟨b, y * 6 + x, none⟩ = some (.int .i64 z2)) (f1 : w.frozen? ⟨b, x * 6 + y, none⟩ = false) (f2 : w.frozen? ⟨b, y * 6 + x, none⟩ = false) :
    Calls Try.prog 59 #[.pointer (some ⟨b, 0, none⟩), .int .i64 x, .int .i64 y, .int .i64 v] w fun e w' => e = .returned (.int .i64 0) ∧ w' = (w.setCell ⟨b, x * 6 + y, none⟩ (.int .i64 v)).setCell ⟨b, y * 6 + x, none⟩ (.int .i64 v) := by
  have hb : ((x : Int) == (y : Int)) = false := by simp; omega
  go_enter Try.func59, Try.ntmps59
  go_wp2_with (first | (go_at_call 19; refine (RNode_yes _ _ (by omega) (by omega)).mono ?_; rintro e w' ⟨rfl, rfl⟩))
  go_ret
  exact ⟨rfl, rfl⟩
theorem step_own {P : Program} {ops : Array Oper} {o : Oper} {a : Act} {w : World} {K : Act → World → Prop} {Q : Exit → Act → World → Prop} {E : Prop} (hgd : o.guard = none) (s x : Operand) (t e : TypeId) (size bytes : Nat) (z : Value)
    (ho : o.op = .call { callee := .builtin .append, args := #[s, x], argTypes := #[t, t] })
    (ht : P.underlying t = some (.slice e)) (hinfo : (P.info? e).map (fun i => (i.zero, i.size, i.bytes)) = some (some z, size, bytes)) (hzs : z.cells.size = size) (hsz : 0 < size)
    (base : Nat) (v : Value) (n : Nat) (xs : List Value) (hs : a.eval s = v) (hown : w.ownsRow base e size v n xs)
    (ad : Addr) (m c : Nat) (news : List Value) (hx : a.eval x = .slice (some ad) m c) (hl : news.length = m * size) (hnews : ∀ j u, news[j]? = some u → w.cell? (ad.add j) = some u) (h1 : ∀ u ∈ news, u.oneCell' = true)
    (h63 : n + m ≤ 2147483648) (hb : bytes ≤ 4096) (hbase : base ≤ w.heap.size)
    (h : ∀ v' w', w'.ownsRow base e size v' (n + m) (xs ++ news) → Fr (fun i => v.ownBlock = some i) w w' → K (a.put o.dst v') w') :
    if Region.wanted o (yielded ops a.tmps) = true then Oper.wp P o a w K Q else E := by
  have hw : Region.wanted o (yielded ops a.tmps) = true := by simp [Region.wanted, hgd]
  rw [if_pos hw]
  obtain ⟨i0, hi, hz0, hz1, hz2⟩ := info_parts hinfo
  exact wp_append_own w s x t ho base e i0 z size bytes ht hi hz0 hz1 hz2 hzs hsz v n xs hs hown ad m c news hx hl hnews h1 (by unfold maxLen; omega) (Nat.le_trans (Nat.mul_le_mul h63 hb) (by omega)) hbase fun v' w' h2 h3 _ => h v' w' h2 ((Fr.refl _ _).grown h3 (fun k hk => .inl hk))
end Go.Proofs.Ytdpgbgapelgomaa
