/- A net in memory. -/
import Derived.Test.YtdpgbgapelgomaaNd12
import Derived.Test.YtdpgbgapelgomaaNtMath
namespace Go.Proofs.Ytdpgbgapelgomaa
open Go.RowKit Go.Deep

theorem rows_apart {w : World} {b b' : Nat} {t t' : TypeId} {n n' : Nat} {f f' : Nat → Value} (h : w.rowIs b t n f) (k : w.rowIs b' t' n' f') (ht : t ≠ t') : b ≠ b' := by
  rintro rfl
  obtain ⟨c, h1, _⟩ := h
  obtain ⟨d, k1, _⟩ := k
  rw [h1] at k1
  simp only [Option.some.injEq, Obj.cells.injEq] at k1
  exact ht k1.2.1
theorem row_own_apart {w : World} {b base : Nat} {t e : TypeId} {n size m : Nat} {f : Nat → Value} {v : Value} {xs : List Value} (h : w.rowIs b t n f) (k : w.ownsRow base e size v m xs) (ht : t ≠ e) : ¬ v.ownBlock = some b := by
  intro hb
  obtain ⟨c, h1, _⟩ := h
  rcases k.2 with ⟨rfl, _⟩ | ⟨g, cap, cur, rfl, _, k1, _⟩
  · cases hb
  · cases hb
    rw [h1] at k1
    simp only [Option.some.injEq, Obj.cells.injEq] at k1
    exact ht k1.2.1
def nwI (l : List Nt.Nw) : List Int := l.flatMap fun x => [x.a, x.g, x.t, x.q, x.d]
theorem nwI_len : ∀ l : List Nt.Nw, (nwI l).length = l.length * 5
  | [] => rfl
  | _ :: l => by
    have := nwI_len l
    simp only [nwI, List.flatMap_cons, List.length_append, List.length_cons, List.length_nil] at *
    omega
theorem nwI_app (l m : List Nt.Nw) : nwI (l ++ m) = nwI l ++ nwI m := by simp [nwI]
theorem nwI_take : ∀ (l : List Nt.Nw) (i : Nat), (nwI l).take (i * 5) = nwI (l.take i)
  | [], i => by simp [nwI]
  | x :: l, 0 => by simp [nwI]
  | x :: l, i + 1 => by
    have := nwI_take l i
    rw [show (i + 1) * 5 = 5 + i * 5 from by omega]
    simp only [nwI, List.flatMap_cons, List.take_succ_cons] at *
    rw [← this, List.take_append, List.take_of_length_le (by simp)]
    simp
theorem nwI_drop : ∀ (l : List Nt.Nw) (i : Nat), (nwI l).drop (i * 5) = nwI (l.drop i)
  | [], i => by simp [nwI]
  | x :: l, 0 => by simp [nwI]
  | x :: l, i + 1 => by
    have := nwI_drop l i
    rw [show (i + 1) * 5 = 5 + i * 5 from by omega]
    simp only [nwI, List.flatMap_cons, List.drop_succ_cons] at *
    rw [← this, List.drop_append, List.drop_of_length_le (by simp)]
    simp
theorem nwI_tell (s : Nd.NS) (who : Int) (k : Nat) : Nd.tellL s who k = nwI (Nt.tellW s who k) := by
  simp [Nd.tellL, Nt.tellW, nwI, List.flatMap_map]
def nwGet (l : List Nt.Nw) (k : Nat) : Nt.Nw := l.getD k ⟨0, 0, 0, 0, 0⟩
theorem nwI_at : ∀ (l : List Nt.Nw) (k : Nat), k < l.length → (nwI l).getD (k * 5) 0 = (nwGet l k).a ∧ (nwI l).getD (k * 5 + 1) 0 = (nwGet l k).g ∧ (nwI l).getD (k * 5 + 2) 0 = (nwGet l k).t ∧ (nwI l).getD (k * 5 + 3) 0 = (nwGet l k).q ∧ (nwI l).getD (k * 5 + 4) 0 = (nwGet l k).d
  | [], k, h => by simp at h
  | x :: l, 0, _ => ⟨rfl, rfl, rfl, rfl, rfl⟩
  | x :: l, k + 1, h => by
    have := nwI_at l k (by simpa using h)
    rw [show (k + 1) * 5 = k * 5 + 5 from by omega]
    exact this
theorem news_rd {w : World} {base : Nat} {v : Value} {n : Nat} {xs : List Int} (h : SlN w base v n xs) (j : Nat) (u : Value) (g : Nat) (hg : v.ownBlock = some g) (hu : (xs.map (Value.int .i64))[j]? = some u) : w.cell? ((⟨g, 0, none⟩ : Addr).add j) = some u := World.ownsRow.cells h hg j u hu
/-- 'append(s, x..)', and where the row lies then. -/
theorem app_lies {P : Program} {ops : Array Oper} {rest : List Oper} {o : Oper} {a : Act} {w : World} {Q : Exit → Act → World → Prop} (hgd : o.guard = none) (s x : Operand) (t e : TypeId) (size bytes : Nat) (z : Value)
    (ho : o.op = .call { callee := .builtin .append, args := #[s, x], argTypes := #[t, t] })
    (ht : P.underlying t = some (.slice e)) (hinfo : (P.info? e).map (fun i => (i.zero, i.size, i.bytes)) = some (some z, size, bytes)) (hzs : z.cells.size = size) (hsz : 0 < size)
    (base : Nat) (v : Value) (n : Nat) (xs : List Value) (hs : a.eval s = v) (hown : w.ownsRow base e size v n xs)
    (ad : Addr) (m c : Nat) (news : List Value) (hx : a.eval x = .slice (some ad) m c) (hl : news.length = m * size) (hnews : ∀ j u, news[j]? = some u → w.cell? (ad.add j) = some u) (h1 : ∀ u ∈ news, u.oneCell' = true)
    (hm : 0 < m) (h63 : n + m ≤ 2147483648) (hb : bytes ≤ 4096) (hbase : base ≤ w.heap.size)
    (h : ∀ g cap w', w'.ownsRow base e size (.slice (some ⟨g, 0, none⟩) (n + m) cap) (n + m) (xs ++ news) → Fr (fun i => v.ownBlock = some i) w w' → (v.ownBlock = some g ∨ w.heap.size ≤ g) → wpList P ops Q rest (a.put o.dst (.slice (some ⟨g, 0, none⟩) (n + m) cap)) w') : wpList P ops Q (o :: rest) a w := by
  obtain ⟨i0, hi, hz0, hz1, hz2⟩ := info_parts hinfo
  refine wpList_plain hgd fun _ hK => wp_append_lies w s x t ho base e i0 z size bytes ht hi hz0 hz1 hz2 hzs hsz v n xs hs hown ad m c news hx hl hnews h1 hm (by unfold maxLen; omega) (Nat.le_trans (Nat.mul_le_mul h63 hb) (by omega)) hbase w.heap.size rfl fun g cap w' h2 h3 h4 _ => hK _ _ (h g cap w' h2 ((Fr.refl _ _).grown h3 (fun k hk => .inl hk)) (by rcases h4 with h4 | h4; exact .inl h4; exact .inr (by omega)))
theorem step_lies {P : Program} {ops : Array Oper} {o : Oper} {a : Act} {w : World} {K : Act → World → Prop} {Q : Exit → Act → World → Prop} {E : Prop} (hgd : o.guard = none) (s x : Operand) (t e : TypeId) (size bytes : Nat) (z : Value)
    (ho : o.op = .call { callee := .builtin .append, args := #[s, x], argTypes := #[t, t] })
    (ht : P.underlying t = some (.slice e)) (hinfo : (P.info? e).map (fun i => (i.zero, i.size, i.bytes)) = some (some z, size, bytes)) (hzs : z.cells.size = size) (hsz : 0 < size)
    (base : Nat) (v : Value) (n : Nat) (xs : List Value) (hs : a.eval s = v) (hown : w.ownsRow base e size v n xs)
    (ad : Addr) (m c : Nat) (news : List Value) (hx : a.eval x = .slice (some ad) m c) (hl : news.length = m * size) (hnews : ∀ j u, news[j]? = some u → w.cell? (ad.add j) = some u) (h1 : ∀ u ∈ news, u.oneCell' = true)
    (hm : 0 < m) (h63 : n + m ≤ 2147483648) (hb : bytes ≤ 4096) (hbase : base ≤ w.heap.size)
    (h : ∀ g cap w', w'.ownsRow base e size (.slice (some ⟨g, 0, none⟩) (n + m) cap) (n + m) (xs ++ news) → Fr (fun i => v.ownBlock = some i) w w' → (v.ownBlock = some g ∨ w.heap.size ≤ g) → K (a.put o.dst (.slice (some ⟨g, 0, none⟩) (n + m) cap)) w') :
    if Region.wanted o (yielded ops a.tmps) = true then Oper.wp P o a w K Q else E := by
  obtain ⟨i0, hi, hz0, hz1, hz2⟩ := info_parts hinfo
  exact step_append_lies w hgd s x t ho base e i0 z size bytes ht hi hz0 hz1 hz2 hzs hsz v n xs hs hown ad m c news hx hl hnews h1 hm (by unfold maxLen; omega) (Nat.le_trans (Nat.mul_le_mul h63 hb) (by omega)) hbase w.heap.size rfl fun g cap w' h2 h3 h4 _ => h g cap w' h2 ((Fr.refl _ _).grown h3 (fun k hk => .inl hk)) (by rcases h4 with h4 | h4; exact .inl h4; exact .inr (by omega))
structure Ids where
  b : Nat
  L : Nat
  N : Nat → Nat
/-- A net's eight cells. -/
def netF (x : Ids) (v : Value) (i : Nat) : Value := if i = 0 then .pointer (some ⟨x.L, 0, none⟩) else if i < 7 then .pointer (some ⟨x.N (i - 1), 0, none⟩) else v
/-- The blocks of a net. -/
def Ft (x : Ids) (v : Value) (i : Nat) : Prop := i = x.b ∨ i = x.L ∨ (∃ k, k < 6 ∧ i = x.N k) ∨ v.ownBlock = some i
structure NtAt (w : World) (x : Ids) (v : Value) (t : Nt.NT) : Prop where
  net : w.rowIs x.b 88 8 (netF x v)
  links : CAt w x.L 103 t.C
  node : ∀ k, k < 6 → NAt w (x.N k) 110 (t.N k)
  news : SlN w 0 v t.news.length (nwI t.news)
  inj : ∀ j k, j < 6 → k < 6 → x.N j = x.N k → j = k
section
variable {w : World} {x : Ids} {v : Value} {t : Nt.NT} (h : NtAt w x v t)
include h
theorem NtAt.c0 : w.cell? ⟨x.b, 0, none⟩ = some (.pointer (some ⟨x.L, 0, none⟩)) := World.rowIs.cell h.net (i := 0) (by omega)
theorem NtAt.cN {k : Nat} (hk : k < 6) : w.cell? ⟨x.b, 1 + k, none⟩ = some (.pointer (some ⟨x.N k, 0, none⟩)) := by
  have := World.rowIs.cell h.net (i := 1 + k) (by omega)
  rw [netF, if_neg (by omega), if_pos (by omega), show 1 + k - 1 = k from by omega] at this
  exact this
theorem NtAt.c7 : w.cell? ⟨x.b, 7, none⟩ = some v := World.rowIs.cell h.net (i := 7) (by omega)
theorem NtAt.fz (i : Nat) : w.frozen? ⟨x.b, i, none⟩ = false := World.rowIs.frozen h.net i
theorem NtAt.bL : x.b ≠ x.L := rows_apart h.net h.links (by decide)
theorem NtAt.bN {k : Nat} (hk : k < 6) : x.b ≠ x.N k := rows_apart h.net (h.node k hk) (by decide)
theorem NtAt.LN {k : Nat} (hk : k < 6) : x.L ≠ x.N k := rows_apart h.links (h.node k hk) (by decide)
theorem NtAt.bv : ¬ v.ownBlock = some x.b := row_own_apart h.net h.news (by decide)
theorem NtAt.Lv : ¬ v.ownBlock = some x.L := row_own_apart h.links h.news (by decide)
theorem NtAt.Nv {k : Nat} (hk : k < 6) : ¬ v.ownBlock = some (x.N k) := row_own_apart (h.node k hk) h.news (by decide)
theorem NtAt.lt {i : Nat} (hi : Ft x v i) : i < w.heap.size := by
  rcases hi with rfl | rfl | ⟨k, hk, rfl⟩ | hi
  · exact World.rowIs.lt h.net
  · exact World.rowIs.lt h.links
  · exact (h.node k hk).lt
  · exact (World.ownsRow.lt h.news i hi).2
theorem NtAt.keep {S : Nat → Prop} {w' : World} (hf : Fr S w w') (hS : ∀ i, Ft x v i → ¬ S i) : NtAt w' x v t :=
  ⟨hf.row h.net (hS _ (.inl rfl)), hf.row h.links (hS _ (.inr (.inl rfl))), fun k hk => (h.node k hk).keep hf (hS _ (.inr (.inr (.inl ⟨k, hk, rfl⟩)))), own_keep h.news hf (fun g hg => hS g (.inr (.inr (.inr hg)))), h.inj⟩
theorem NtAt.keep0 {w' : World} (hf : Fr NoB w w') : NtAt w' x v t := h.keep hf (fun _ _ h => h)
/-- One node turned. -/
theorem NtAt.setN {k : Nat} (hk : k < 6) {w' : World} {s : Nd.NS} (hs : NAt w' (x.N k) 110 s) (hf : Fr (OneB (x.N k)) w w') : NtAt w' x v { t with N := Nt.upN t.N k s } where
  net := hf.row h.net (fun e => h.bN hk e)
  links := hf.row h.links (fun e => h.LN hk e)
  node j hj := by
    show NAt w' (x.N j) _ (Nt.upN t.N k s j)
    by_cases e : j = k
    · subst e; rw [Nt.upN_same]; exact hs
    · rw [Nt.upN_other _ _ _ _ e]; exact (h.node j hj).keep hf (fun e' => e (h.inj j k hj hk e'))
  news := own_keep h.news hf (fun g hg e => by cases e; exact h.Nv hk hg)
  inj := h.inj
/-- The links turned. -/
theorem NtAt.setL {w' : World} {C : Nat → Nat → Int} (hs : CAt w' x.L 103 C) (hf : Fr (OneB x.L) w w') : NtAt w' x v { t with C := C } where
  net := hf.row h.net (fun e => h.bL e)
  links := hs
  node j hj := (h.node j hj).keep hf (fun e => h.LN hj e.symm)
  news := own_keep h.news hf (fun g hg e => by cases e; exact h.Lv hg)
  inj := h.inj
/-- The news turned, and the field that holds them. -/
theorem NtAt.setV {w' : World} {v' : Value} {l : List Nt.Nw} (hv : SlN w' 0 v' l.length (nwI l)) (hf : Fr (fun i => v.ownBlock = some i) w w') : NtAt (w'.setCell ⟨x.b, 7, none⟩ v') x v' { t with news := l } := by
  have hnet := hf.row h.net h.bv
  have hl := hf.row h.links h.Lv
  have hb : ¬ v'.ownBlock = some x.b := row_own_apart hnet hv (by decide)
  have hfs : Fr (OneB x.b) w' (w'.setCell ⟨x.b, 7, none⟩ v') := (Fr.refl _ _).set1 _ _
  refine ⟨(World.rowIs.set hnet 7 v').congr (fun i hi => ?_), hfs.row hl (fun e => h.bL e.symm), fun k hk => ((h.node k hk).keep hf (h.Nv hk)).keep hfs (fun e => h.bN hk e.symm), own_keep hv hfs (fun g hg e => by cases e; exact hb hg), h.inj⟩
  unfold netF
  by_cases e : i = 7
  · subst e; simp
  · rw [if_neg e]
    by_cases e0 : i = 0
    · rw [if_pos e0, if_pos e0]
    · rw [if_neg e0, if_neg e0, if_pos (by omega), if_pos (by omega)]
end
theorem NtAt.drewN {w : World} {x : Ids} {v : Value} {t : Nt.NT} (h : NtAt w x v t) (n : Nat) : NtAt (w.drewN n) x v t := ⟨h.net, h.links, h.node, h.news, h.inj⟩
/-- What a step of a net says and leaves. -/
def NtDo (x : Ids) (v : Value) (t : Nt.NT) (c : Int) (w : World) (e : Ending) (w' : World) : Prop :=
  ∃ v', e = .returned (.int .i64 c) ∧ NtAt w' x v' t ∧ Fr (Ft x v) w w' ∧ ∀ g, v'.ownBlock = some g → v.ownBlock = some g ∨ w.heap.size ≤ g
/-- A net of one's own: its blocks are new since w. -/
structure NtR (w : World) (x : Ids) (v : Value) (t : Nt.NT) (wr : World) : Prop where
  at_ : NtAt wr x v t
  f : Fr NoB w wr
  new : ∀ i, Ft x v i → w.heap.size ≤ i
theorem NtR.keep {w wr wx : World} {x : Ids} {v : Value} {t : Nt.NT} (h : NtR w x v t wr) (hf : Fr NoB wr wx) : NtR w x v t wx := ⟨h.at_.keep0 hf, h.f.trans hf, h.new⟩
theorem NtR.step {w wr wx : World} {x : Ids} {v v' : Value} {t t' : Nt.NT} (h : NtR w x v t wr) (ha : NtAt wx x v' t') (hf : Fr (Ft x v) wr wx) (hg : ∀ g, v'.ownBlock = some g → v.ownBlock = some g ∨ wr.heap.size ≤ g) : NtR w x v' t' wx := by
  refine ⟨ha, h.f.trans' hf (fun i hi h' => by have := h.new i h'; omega), fun i hi => ?_⟩
  rcases hi with hi | hi | hi | hi
  · exact h.new i (.inl hi)
  · exact h.new i (.inr (.inl hi))
  · exact h.new i (.inr (.inr (.inl hi)))
  · rcases hg i hi with hi | hi
    · exact h.new i (.inr (.inr (.inr hi)))
    · have := h.f.size; omega
/-- Two nets apart stay so. -/
theorem Ft.apart {wr : World} {x y : Ids} {v v' u : Value} {t' : Nt.NT} (hy : NtAt wr y u t') (h : ∀ i, Ft x v i → ¬ Ft y u i) (hg : ∀ g, v'.ownBlock = some g → v.ownBlock = some g ∨ wr.heap.size ≤ g) : ∀ i, Ft x v' i → ¬ Ft y u i := by
  intro i hi hy'
  rcases hi with hi | hi | hi | hi
  · exact h i (.inl hi) hy'
  · exact h i (.inr (.inl hi)) hy'
  · exact h i (.inr (.inr (.inl hi))) hy'
  · rcases hg i hi with hi | hi
    · exact h i (.inr (.inr (.inr hi))) hy'
    · have := hy.lt hy'; omega
end Go.Proofs.Ytdpgbgapelgomaa
