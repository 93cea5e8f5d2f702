/- A net in memory. -/
import Derived.Test.YteedndapbfihaaaGreatB8
import Derived.Test.YteedndapbfihaaaGreatB2
namespace Go.Proofs.YteedndapbfihaaaGreat
open Go.RowKit Go.Deep

theorem rows_apart {w : World} {b b' : Nat} {t t' : TypeId} {n n' : Nat} {f f' : Nat → Value} (h : w.rowIs b t n f) (k : w.rowIs b' t' n' f') (ht : t ≠ t') : b ≠ b' := by
  rintro rfl
  obtain ⟨c, h1, _⟩ := h
  obtain ⟨d, k1, _⟩ := k
  rw [h1] at k1
  simp only [Option.some.injEq, Obj.cells.injEq] at k1
  exact ht k1.2.1
theorem row_own_apart {w : World} {b base : Nat} {t e : TypeId} {n size m : Nat} {f : Nat → Value} {v : Value} {xs : List Value} (h : w.rowIs b t n f) (k : w.ownsRow base e size v m xs) (ht : t ≠ e) : ¬ v.ownBlock = some b := by
  intro hb
  obtain ⟨c, h1, _⟩ := h
  rcases k.2 with ⟨rfl, _⟩ | ⟨g, cap, cur, rfl, _, k1, _⟩
  · cases hb
  · cases hb
    rw [h1] at k1
    simp only [Option.some.injEq, Obj.cells.injEq] at k1
    exact ht k1.2.1
def nwI (l : List Nt.Nw) : List Int := l.flatMap fun x => [x.a, x.g, x.t, x.q, x.d]
theorem nwI_len : ∀ l : List Nt.Nw, (nwI l).length = l.length * 5
  | [] => rfl
  | _ :: l => by
    have := nwI_len l
    simp only [nwI, List.flatMap_cons, List.length_append, List.length_cons, List.length_nil] at *
    omega
theorem nwI_app (l m : List Nt.Nw) : nwI (l ++ m) = nwI l ++ nwI m := by simp [nwI]
theorem nwI_take : ∀ (l : List Nt.Nw) (i : Nat), (nwI l).take (i * 5) = nwI (l.take i)
  | [], i => by simp [nwI]
  | x :: l, 0 => by simp [nwI]
  | x :: l, i + 1 => by
    have := nwI_take l i
    rw [show (i + 1) * 5 = 5 + i * 5 from by omega]
    simp only [nwI, List.flatMap_cons, List.take_succ_cons] at *
    rw [← this, List.take_append, List.take_of_length_le (by simp)]
    simp
theorem nwI_drop : ∀ (l : List Nt.Nw) (i : Nat), (nwI l).drop (i * 5) = nwI (l.drop i)
  | [], i => by simp [nwI]
  | x :: l, 0 => by simp [nwI]
  | x :: l, i + 1 => by
    have := nwI_drop l i
    rw [show (i + 1) * 5 = 5 + i * 5 from by omega]
    simp only [nwI, List.flatMap_cons, List.drop_succ_cons] at *
    rw [← this, List.drop_append, List.drop_of_length_le (by simp)]
    simp
theorem nwI_tell (s : Nd.NS) (who : Int) (k : Nat) : Nd.tellL s who k = nwI (Nt.tellW s who k) := by
  simp [Nd.tellL, Nt.tellW, nwI, List.flatMap_map]
def nwGet (l : List Nt.Nw) (k : Nat) : Nt.Nw := l.getD k ⟨0, 0, 0, 0, 0⟩
theorem nwI_at : ∀ (l : List Nt.Nw) (k : Nat), k < l.length → (nwI l).getD (k * 5) 0 = (nwGet l k).a ∧ (nwI l).getD (k * 5 + 1) 0 = (nwGet l k).g ∧ (nwI l).getD (k * 5 + 2) 0 = (nwGet l k).t ∧ (nwI l).getD (k * 5 + 3) 0 = (nwGet l k).q ∧ (nwI l).getD (k * 5 + 4) 0 = (nwGet l k).d
  | [], k, h => by simp at h
  | x :: l, 0, _ => ⟨rfl, rfl, rfl, rfl, rfl⟩
  | x :: l, k + 1, h => by
    have := nwI_at l k (by simpa using h)
    rw [show (k + 1) * 5 = k * 5 + 5 from by omega]
    exact this
theorem news_rd {w : World} {base : Nat} {v : Value} {n : Nat} {xs : List Int} (h : SlN w base v n xs) (j : Nat) (u : Value) (g : Nat) (hg : v.ownBlock = some g) (hu : (xs.map (Value.int .i64))[j]? = some u) : w.cell? ((⟨g, 0, none⟩ : Addr).add j) = some u := World.ownsRow.cells h hg j u hu
structure Ids where
  b : Nat
  L : Nat
  N : Nat → Nat
/-- A net's eight cells. -/
def netF (x : Ids) (v : Value) (i : Nat) : Value := if i = 0 then .pointer (some ⟨x.L, 0, none⟩) else if i < 7 then .pointer (some ⟨x.N (i - 1), 0, none⟩) else v
/-- The blocks of a net. -/
def Ft (x : Ids) (v : Value) (i : Nat) : Prop := i = x.b ∨ i = x.L ∨ (∃ k, k < 6 ∧ i = x.N k) ∨ v.ownBlock = some i
structure NtAt (w : World) (x : Ids) (v : Value) (t : Nt.NT) : Prop where
  net : w.rowIs x.b 80 8 (netF x v)
  links : CAt w x.L 108 t.C
  node : ∀ k, k < 6 → NAt w (x.N k) 136 (t.N k)
  news : SlN w 0 v t.news.length (nwI t.news)
  inj : ∀ j k, j < 6 → k < 6 → x.N j = x.N k → j = k
section
variable {w : World} {x : Ids} {v : Value} {t : Nt.NT} (h : NtAt w x v t)
include h
theorem NtAt.c0 : w.cell? ⟨x.b, 0, none⟩ = some (.pointer (some ⟨x.L, 0, none⟩)) := World.rowIs.cell h.net (i := 0) (by omega)
theorem NtAt.cN {k : Nat} (hk : k < 6) : w.cell? ⟨x.b, 1 + k, none⟩ = some (.pointer (some ⟨x.N k, 0, none⟩)) := by
  have := World.rowIs.cell h.net (i := 1 + k) (by omega)
  rw [netF, if_neg (by omega), if_pos (by omega), show 1 + k - 1 = k from by omega] at this
  exact this
theorem NtAt.c7 : w.cell? ⟨x.b, 7, none⟩ = some v := World.rowIs.cell h.net (i := 7) (by omega)
theorem NtAt.fz (i : Nat) : w.frozen? ⟨x.b, i, none⟩ = false := World.rowIs.frozen h.net i
theorem NtAt.bL : x.b ≠ x.L := rows_apart h.net h.links (by decide)
theorem NtAt.bN {k : Nat} (hk : k < 6) : x.b ≠ x.N k := rows_apart h.net (h.node k hk) (by decide)
theorem NtAt.LN {k : Nat} (hk : k < 6) : x.L ≠ x.N k := rows_apart h.links (h.node k hk) (by decide)
theorem NtAt.bv : ¬ v.ownBlock = some x.b := row_own_apart h.net h.news (by decide)
theorem NtAt.Lv : ¬ v.ownBlock = some x.L := row_own_apart h.links h.news (by decide)
theorem NtAt.Nv {k : Nat} (hk : k < 6) : ¬ v.ownBlock = some (x.N k) := row_own_apart (h.node k hk) h.news (by decide)
theorem NtAt.lt {i : Nat} (hi : Ft x v i) : i < w.heap.size := by
  rcases hi with rfl | rfl | ⟨k, hk, rfl⟩ | hi
  · exact World.rowIs.lt h.net
  · exact World.rowIs.lt h.links
  · exact (h.node k hk).lt
  · exact (World.ownsRow.lt h.news i hi).2
theorem NtAt.keep {S : Nat → Prop} {w' : World} (hf : Fr S w w') (hS : ∀ i, Ft x v i → ¬ S i) : NtAt w' x v t :=
  ⟨hf.row h.net (hS _ (.inl rfl)), hf.row h.links (hS _ (.inr (.inl rfl))), fun k hk => (h.node k hk).keep hf (hS _ (.inr (.inr (.inl ⟨k, hk, rfl⟩)))), own_keep h.news hf (fun g hg => hS g (.inr (.inr (.inr hg)))), h.inj⟩
theorem NtAt.keep0 {w' : World} (hf : Fr NoB w w') : NtAt w' x v t := h.keep hf (fun _ _ h => h)
/-- One node turned. -/
theorem NtAt.setN {k : Nat} (hk : k < 6) {w' : World} {s : Nd.NS} (hs : NAt w' (x.N k) 136 s) (hf : Fr (OneB (x.N k)) w w') : NtAt w' x v { t with N := Nt.upN t.N k s } where
  net := hf.row h.net (fun e => h.bN hk e)
  links := hf.row h.links (fun e => h.LN hk e)
  node j hj := by
    show NAt w' (x.N j) _ (Nt.upN t.N k s j)
    by_cases e : j = k
    · subst e; rw [Nt.upN_same]; exact hs
    · rw [Nt.upN_other _ _ _ _ e]; exact (h.node j hj).keep hf (fun e' => e (h.inj j k hj hk e'))
  news := own_keep h.news hf (fun g hg e => by cases e; exact h.Nv hk hg)
  inj := h.inj
/-- The links turned. -/
theorem NtAt.setL {w' : World} {C : Nat → Nat → Int} (hs : CAt w' x.L 108 C) (hf : Fr (OneB x.L) w w') : NtAt w' x v { t with C := C } where
  net := hf.row h.net (fun e => h.bL e)
  links := hs
  node j hj := (h.node j hj).keep hf (fun e => h.LN hj e.symm)
  news := own_keep h.news hf (fun g hg e => by cases e; exact h.Lv hg)
  inj := h.inj
/-- The news turned, and the field that holds them. -/
theorem NtAt.setV {w' : World} {v' : Value} {l : List Nt.Nw} (hv : SlN w' 0 v' l.length (nwI l)) (hf : Fr (fun i => v.ownBlock = some i) w w') : NtAt (w'.setCell ⟨x.b, 7, none⟩ v') x v' { t with news := l } := by
  have hnet := hf.row h.net h.bv
  have hl := hf.row h.links h.Lv
  have hb : ¬ v'.ownBlock = some x.b := row_own_apart hnet hv (by decide)
  have hfs : Fr (OneB x.b) w' (w'.setCell ⟨x.b, 7, none⟩ v') := (Fr.refl _ _).set1 _ _
  refine ⟨(World.rowIs.set hnet 7 v').congr (fun i hi => ?_), hfs.row hl (fun e => h.bL e.symm), fun k hk => ((h.node k hk).keep hf (h.Nv hk)).keep hfs (fun e => h.bN hk e.symm), own_keep hv hfs (fun g hg e => by cases e; exact hb hg), h.inj⟩
  unfold netF
  by_cases e : i = 7
  · subst e; simp
  · rw [if_neg e]
    by_cases e0 : i = 0
    · rw [if_pos e0, if_pos e0]
    · rw [if_neg e0, if_neg e0, if_pos (by omega), if_pos (by omega)]
end
theorem NtAt.drewN {w : World} {x : Ids} {v : Value} {t : Nt.NT} (h : NtAt w x v t) (n : Nat) : NtAt (w.drewN n) x v t := ⟨h.net, h.links, h.node, h.news, h.inj⟩
/-- What a step of a net says and leaves. -/
def NtDo (x : Ids) (v : Value) (t : Nt.NT) (c : Int) (w : World) (e : Ending) (w' : World) : Prop :=
  ∃ v', e = .returned (.int .i64 c) ∧ NtAt w' x v' t ∧ Fr (Ft x v) w w' ∧ ∀ g, v'.ownBlock = some g → v.ownBlock = some g ∨ w.heap.size ≤ g
/-- Two nets apart stay so. -/
theorem Ft.apart {wr : World} {x y : Ids} {v v' u : Value} {t' : Nt.NT} (hy : NtAt wr y u t') (h : ∀ i, Ft x v i → ¬ Ft y u i) (hg : ∀ g, v'.ownBlock = some g → v.ownBlock = some g ∨ wr.heap.size ≤ g) : ∀ i, Ft x v' i → ¬ Ft y u i := by
  intro i hi hy'
  rcases hi with hi | hi | hi | hi
  · exact h i (.inl hi) hy'
  · exact h i (.inr (.inl hi)) hy'
  · exact h i (.inr (.inr (.inl hi))) hy'
  · rcases hg i hi with hi | hi
    · exact h i (.inr (.inr (.inr hi))) hy'
    · have := hy.lt hy'; omega
end Go.Proofs.YteedndapbfihaaaGreat
/- Walks: slices.Index, slices.Contains at integers. -/
namespace Go.Proofs.YteedndapbfihaaaGreat
open Go.RowKit Go.Deep

theorem Sl.at {w : World} {base : Nat} {al : Option Addr} {n c : Nat} {xs : List Int} (h : Sl w base (.slice al n c) xs) {k : Nat} (hk : k < xs.length) : ∃ g, al = some ⟨g, 0, none⟩ ∧ w.cell? ⟨g, k, none⟩ = some (.int .i64 (xs.getD k 0)) := by
  rcases h.shape with ⟨_, rfl⟩ | ⟨g, cap, e, _, _, hc⟩
  · simp at hk
  · cases e
    exact ⟨g, rfl, hc k hk⟩
def IdxPost (xs : List Int) (y : Int) (w : World) (e : Ending) (w' : World) : Prop := ∃ r : Int, e = .returned (.int .i64 r) ∧ (0 ≤ r ↔ y ∈ xs) ∧ w = w'
def IdxRel (xs : List Int) (y : Int) (w : World) (i : Value) (wr : World) : Prop := ∃ k : Nat, k ≤ xs.length ∧ i = .int .i64 k ∧ (∀ j, j < k → xs.getD j 0 ≠ y) ∧ wr = w
set_option maxHeartbeats 1000000 in
theorem Index_any (base : Nat) (v : Value) (xs : List Int) (y : Int) (w : World) (hl : xs.length ≤ 1000000) (h : Sl w base v xs) :
    Calls Tryz.prog 91 #[v, .int .i64 y] w (IdxPost xs y w) := by
  obtain ⟨al, c, rfl, j⟩ := ownsRow_rd h
  clear j
  have H := Lib.hid h; clear h
  go_enter Tryz.func91, Tryz.ntmps91
  go_wp2
  go_loopw [8] (fun i wr => IdxRel xs y w i wr) (fun i _ => xs.length - (intOf i).toNat)
  case atStart => exact ⟨0, by omega, rfl, fun j h => by omega, rfl⟩
  case round =>
    obtain ⟨k, hk, rfl, hne, rfl⟩ := hrel
    have HNE := Lib.hid hne; clear hne
    by_cases hkn : k < xs.length
    · obtain ⟨g, rfl, cg⟩ := Sl.at H.out hkn
      have hmem : xs.getD k 0 ∈ xs := by simp [hkn]
      generalize hz : xs.getD k 0 = z at *
      by_cases he : y = z
      · have heb : (y == z) = true := by simp [he]
        have hm : y ∈ xs := by rw [he]; exact hmem
        clear hmem hz he
        have HM := Lib.hid hm; clear hm
        go_wp2
        go_ret
        exact ⟨k, rfl, ⟨fun _ => HM.out, fun _ => by omega⟩, rfl⟩
      · have heb : (y == z) = false := by simpa using he
        have hne : ∀ j, j < k + 1 → xs.getD j 0 ≠ y := fun j hj => by
          by_cases e : j = k
          · rw [e, hz]; exact fun h => he h.symm
          · exact HNE.out j (by omega)
        clear hmem hz he HNE
        have HNE := Lib.hid hne; clear hne
        go_wp2
        go_roundw
        case rel => exact ⟨k + 1, by omega, by go_num, HNE.out, rfl⟩
        case measure => simp [intOf]; omega
    · have hm : ¬ y ∈ xs := fun hm => by
        obtain ⟨j, hj, e⟩ := List.mem_iff_getElem.1 hm
        exact HNE.out j (by omega) (by simp [hj, e])
      clear HNE
      have HM := Lib.hid hm; clear hm
      go_wp2
      go_ret
      exact ⟨-1, rfl, ⟨fun h => by omega, fun h => absurd h HM.out⟩, rfl⟩
set_option maxHeartbeats 1000000 in
theorem Contains_any (base : Nat) (v : Value) (xs : List Int) (y : Int) (w : World) (hl : xs.length ≤ 1000000) (h : Sl w base v xs) :
    Calls Tryz.prog 59 #[v, .int .i64 y] w fun e w' => e = .returned (.bool (decide (y ∈ xs))) ∧ w = w' := by
  have H := Lib.hid h; clear h
  go_enter Tryz.func59, Tryz.ntmps59
  go_wp2_with fail
  refine (Index_any base v xs y _ hl H.out).mono ?_
  rintro e w1 ⟨r, rfl, hr, rfl⟩
  have hd : decide (0 ≤ r) = decide (y ∈ xs) := decide_eq_decide.2 hr
  have HD := Lib.hid hd; clear hd
  clear hr
  go_wp2
  go_ret
  exact ⟨ret_bool HD.out, rfl⟩
end Go.Proofs.YteedndapbfihaaaGreat
/- Walks over package net: link, tell, tick. -/
namespace Go.Proofs.YteedndapbfihaaaGreat
open Go.RowKit Go.Deep

theorem NtDo.none {x : Ids} {v : Value} {t : Nt.NT} {c : Int} {w w' : World} (h : NtAt w' x v t) (hf : Fr (Ft x v) w w') : NtDo x v t c w (.returned (.int .i64 c)) w' := ⟨v, rfl, h, hf, fun _ hg => .inl hg⟩
theorem NtAt.own_off {w : World} {x : Ids} {v u : Value} {t : Nt.NT} {base n size : Nat} {e : TypeId} {xs : List Value} (h : NtAt w x v t) (k : w.ownsRow base e size u n xs) (e1 : 80 ≠ e) (e2 : 108 ≠ e) (e3 : 136 ≠ e) (e4 : 112 ≠ e) : ∀ g, u.ownBlock = some g → ¬ Ft x v g := by
  intro g hg hf
  rcases hf with rfl | rfl | ⟨j, hj, rfl⟩ | hf
  · exact row_own_apart h.net k e1 hg
  · exact row_own_apart h.links k e2 hg
  · exact row_own_apart (h.node j hj) k e3 hg
  · exact own_apart h.news k e4 g hf hg
set_option maxHeartbeats 2000000 in
theorem Nlink_any (x : Ids) (v : Value) (t : Nt.NT) (a b c : Int) (m : Nat) (w : World) (hr : Nt.NOk t m) (h : NtAt w x v t) :
    Calls Tryz.prog 87 #[.pointer (some ⟨x.b, 0, none⟩), .int .i64 a, .int .i64 b, .int .i64 c] w (NtDo x v (Nt.linkT t a b c).1 (Nt.linkT t a b c).2 w) := by
  have c0 := h.c0
  have H := Lib.hid h; clear h; have HR := Lib.hid hr; clear hr
  by_cases hb : Nt.setBad a b c
  · have e : Nt.linkT t a b c = (t, 1) := by rw [Nt.linkT, if_pos hb]
    rw [e]
    clear e
    unfold Nt.setBad at hb
    have HB := Lib.hid hb; clear hb
    go_enter Tryz.func87, Tryz.ntmps87
    go_wp2_with fail
    refine (Set_no x.L a b c _ HB.out).mono ?_
    rintro e w' ⟨rfl, rfl⟩
    go_wp2
    go_ret
    exact NtDo.none H.out (Fr.refl _ _)
  · have e : Nt.linkT t a b c = (Nt.linkOk t a.toNat b.toNat c, 0) := by rw [Nt.linkT, if_neg hb]
    rw [e]
    clear e
    have hb := Classical.not_not.1 hb
    obtain ⟨p0, p1, q0, q1, hne, r0, r1⟩ := hb
    obtain ⟨p, rfl⟩ := Int.eq_ofNat_of_zero_le p0
    obtain ⟨q, rfl⟩ := Int.eq_ofNat_of_zero_le q0
    rw [Int.toNat_natCast, Int.toNat_natCast]
    have hp : p < 6 := by omega
    have hq : q < 6 := by omega
    have hpq : q ≠ p := by omega
    clear hne p0 q0
    have HPQ := Lib.hid hpq; clear hpq
    go_enter Tryz.func87, Tryz.ntmps87
    go_wp2_with fail
    refine (Set_ok x.L p q c t.C _ hp hq (fun e => HPQ.out e.symm) r0 r1 H.out.links).mono ?_
    rintro e w1 ⟨rfl, hc, hf⟩
    have h1 := H.out.setL hc hf
    have hf1 : Fr (Ft x v) w w1 := hf.mono (fun i _ h => .inr (.inl h))
    clear c0 hc hf H
    have c1 := h1.cN hp
    have c2 := h1.cN hq
    have H := Lib.hid h1; clear h1; have HF := Lib.hid hf1; clear hf1
    go_wp2_with fail
    refine (Link_any (x.N p) q c (t.N p) _ (HR.out.run p hp).ok (H.out.node p hp)).mono ?_
    rintro e w2 ⟨rfl, hn, hf⟩
    have h2 := H.out.setN hp hn hf
    have hf2 : Fr (Ft x v) w w2 := HF.out.trans (hf.mono (fun i _ h => .inr (.inr (.inl ⟨p, hp, h⟩))))
    have hq2 : NAt w2 (x.N q) 136 (t.N q) := by
      have h3 : NAt w2 (x.N q) 136 (Nt.upN t.N p (Nd.linkC (t.N p) q c).1 q) := h2.node q hq
      rw [Nt.upN_other _ _ _ _ HPQ.out] at h3
      exact h3
    clear c1 c2 hn hf H HF
    have c2 := h2.cN hq
    have H := Lib.hid h2; clear h2; have HF := Lib.hid hf2; clear hf2; have HQ := Lib.hid hq2; clear hq2
    go_wp2_with fail
    refine (Link_any (x.N q) p c (t.N q) _ (HR.out.run q hq).ok HQ.out).mono ?_
    rintro e w3 ⟨rfl, hn, hf⟩
    have h3 := H.out.setN hq hn hf
    have hf3 : Fr (Ft x v) w w3 := HF.out.trans (hf.mono (fun i _ h => .inr (.inr (.inl ⟨q, hq, h⟩))))
    clear c2 hn hf H HF
    have H := Lib.hid h3; clear h3; have HF := Lib.hid hf3; clear hf3
    go_wp2
    go_ret
    exact NtDo.none H.out HF.out
set_option maxRecDepth 100000 in
set_option maxHeartbeats 4000000 in
theorem Ntell_any (x : Ids) (v : Value) (t : Nt.NT) (a b : Int) (m : Nat) (w : World) (hr : Nt.NOk t m) (h : NtAt w x v t) :
    Calls Tryz.prog 89 #[.pointer (some ⟨x.b, 0, none⟩), .int .i64 a, .int .i64 b] w (NtDo x v (Nt.tellT t a b).1 (Nt.tellT t a b).2 w) := by
  by_cases ha : Nt.isN a
  · by_cases hb : Nt.isN b
    · obtain ⟨p, rfl⟩ := Int.eq_ofNat_of_zero_le ha.1
      obtain ⟨q, rfl⟩ := Int.eq_ofNat_of_zero_le hb.1
      have hp : p < 6 := by have := ha.2; omega
      have hq : q < 6 := by have := hb.2; omega
      have hab : ¬ ¬ (Nt.isN p ∧ Nt.isN q) := fun h => h ⟨ha, hb⟩
      clear ha hb
      have c0 := h.c0
      have H := Lib.hid h; clear h; have HR := Lib.hid hr; clear hr
      by_cases hz : t.C p q = 0
      · have e : Nt.tellT t p q = (t, 6) := by rw [Nt.tellT, if_neg hab, Int.toNat_natCast, Int.toNat_natCast, if_pos hz]
        rw [e]
        have hzb : (t.C p q == 0) = true := by simp [hz]
        clear e hab hz
        go_enter Tryz.func89, Tryz.ntmps89
        go_wp2_with (first | (go_at_call 43; refine (Node_yes _ _ (by omega) (by omega)).mono ?_; rintro e w' ⟨rfl, rfl⟩) | (go_at_call 37; refine (Cost_yes _ _ _ t.C _ hp hq H.out.links).mono ?_; rintro e w' ⟨rfl, rfl⟩))
        go_ret
        exact NtDo.none H.out (Fr.refl _ _)
      · have hzb : (t.C p q == 0) = false := by simpa using hz
        obtain ⟨av, cv, rfl, _, _, _, hncv, hcv, _⟩ := ownsRow_rd H.out.news
        clear hncv hcv
        have c1 := H.out.cN hp
        have hl40 := HR.out.len
        have hsum := IntWalk.i64_in ((t.news.length : Int) + 6) (by omega)
        by_cases hl : 40 < t.news.length + 6
        · have e : Nt.tellT t p q = (t, 9) := by rw [Nt.tellT, if_neg hab, Int.toNat_natCast, Int.toNat_natCast, if_neg hz, if_pos hl]
          rw [e]
          clear e hab hz
          have hlb : decide ((40 : Int) < (t.news.length : Int) + 6) = true := by simp; omega
          have HL40 := Lib.hid hl40; clear hl40
          clear hl
          go_enter Tryz.func89, Tryz.ntmps89
          go_wp2_with (first | (go_at_call 43; refine (Node_yes _ _ (by omega) (by omega)).mono ?_; rintro e w' ⟨rfl, rfl⟩) | (go_at_call 37; refine (Cost_yes _ _ _ t.C _ hp hq H.out.links).mono ?_; rintro e w' ⟨rfl, rfl⟩))
          refine (Tell_any (x.N p) q (t.N p) _ (H.out.node p hp)).mono ?_
          rintro e w1 ⟨v1, rfl, hv1, hf⟩
          have h1 := H.out.keep0 hf
          obtain ⟨a1, cap1, rfl, _⟩ := ownsRow_rd hv1
          have c7 := h1.c7
          have hf1 : Fr (Ft x (.slice av t.news.length cv)) w w1 := hf.mono (fun _ _ h => h.elim)
          clear c0 c1 hv1 hf H
          have H := Lib.hid h1; clear h1; have HF := Lib.hid hf1; clear hf1
          go_wp2
          go_ret
          exact NtDo.none H.out HF.out
        · have e : Nt.tellT t p q = ({ t with news := t.news ++ Nt.tellW (t.N p) q 6 }, 0) := by rw [Nt.tellT, if_neg hab, Int.toNat_natCast, Int.toNat_natCast, if_neg hz, if_neg hl]
          rw [e]
          clear e hab hz
          have hlb : decide ((40 : Int) < (t.news.length : Int) + 6) = false := by simp; omega
          have HL40 := Lib.hid hl40; clear hl40
          clear hl
          go_enter Tryz.func89, Tryz.ntmps89
          go_wp2_with (first | (go_at_call 43; refine (Node_yes _ _ (by omega) (by omega)).mono ?_; rintro e w' ⟨rfl, rfl⟩) | (go_at_call 37; refine (Cost_yes _ _ _ t.C _ hp hq H.out.links).mono ?_; rintro e w' ⟨rfl, rfl⟩))
          refine (Tell_any (x.N p) q (t.N p) _ (H.out.node p hp)).mono ?_
          rintro e w1 ⟨v1, rfl, hv1, hf⟩
          have h1 := H.out.keep0 hf
          have hz1 := hf.size
          have hg1 : ∃ g1 c1, v1 = .slice (some ⟨g1, 0, none⟩) 6 c1 := by
            rcases hv1.2 with ⟨_, h0⟩ | ⟨g, cap, cur, h2, _⟩
            · omega
            · exact ⟨g, cap, h2⟩
          obtain ⟨g1, cap1, rfl⟩ := hg1
          have c7 := h1.c7
          have hf1 : Fr (Ft x (.slice av t.news.length cv)) w w1 := hf.mono (fun _ _ h => h.elim)
          clear c0 c1 hf H
          have H := Lib.hid h1; clear h1; have HF := Lib.hid hf1; clear hf1; have HV1 := Lib.hid hv1; clear hv1; have HZ1 := Lib.hid hz1; clear hz1
          go_wp2_with (at_builtin; go_loud (refine app_lies (by rfl) (.tmp 45) (.tmp 46) 36 112 5 40 (.agg #[.int .i64 0, .int .i64 0, .int .i64 0, .int .i64 0, .int .i64 0]) (by rfl) Tryz.underlying36 Tryz.info112 rfl (by omega) 0 (.slice av t.news.length cv) t.news.length _ (by rfl) H.out.news ⟨g1, 0, none⟩ 6 cap1 ((Nd.tellL (t.N p) q 6).map (Value.int .i64)) (by rfl) (by rw [List.length_map, Nd.tellL_len]) (fun j u hu => news_rd HV1.out j u g1 rfl hu) (by intro u hu; obtain ⟨y, _, rfl⟩ := List.mem_map.1 hu; rfl) (by omega) (by have := HL40.out; omega) (by omega) (by omega) ?_))
          intro g cap w2 h2 hf hlie
          have hv2 : SlN w2 0 (.slice (some ⟨g, 0, none⟩) (t.news ++ Nt.tellW (t.N p) q 6).length cap) (t.news ++ Nt.tellW (t.N p) q 6).length (nwI (t.news ++ Nt.tellW (t.N p) q 6)) := by
            rw [nwI_app, ← nwI_tell, List.length_append, Nt.tellW_len]
            unfold SlN
            rw [List.map_append]
            exact h2
          have h3 := H.out.setV hv2 hf
          have q7 := cell_fr hf c7 H.out.bv
          have qf : w2.frozen? ⟨x.b, 7, none⟩ = false := World.rowIs.frozen (hf.row H.out.net H.out.bv) 7
          have hf3 : Fr (Ft x (.slice av t.news.length cv)) w (w2.setCell ⟨x.b, 7, none⟩ (.slice (some ⟨g, 0, none⟩) (t.news ++ Nt.tellW (t.N p) q 6).length cap)) :=
            (HF.out.trans (hf.mono (fun _ _ h => .inr (.inr (.inr h))))).setCell (p := ⟨x.b, 7, none⟩) (.inl (.inl rfl)) _
          have hll : t.news.length + 6 = (t.news ++ Nt.tellW (t.N p) q 6).length := by rw [List.length_append, Nt.tellW_len]
          have hlie' : ∀ g', (Value.slice (some ⟨g, 0, none⟩) (t.news ++ Nt.tellW (t.N p) q 6).length cap).ownBlock = some g' → (Value.slice av t.news.length cv).ownBlock = some g' ∨ w.heap.size ≤ g' := by
            intro g' hg'
            simp only [Value.ownBlock, Option.some.injEq] at hg'
            subst hg'
            rcases hlie with h | h
            · exact .inl h
            · exact .inr (by have := HZ1.out; omega)
          rw [hll]
          generalize (t.news ++ Nt.tellW (t.N p) q 6).length = ln at *
          clear c7 h2 hv2 hf hlie hll H HF HV1
          have H := Lib.hid h3; clear h3; have HF := Lib.hid hf3; clear hf3; have HLI := Lib.hid hlie'; clear hlie'
          go_wp2
          go_ret
          exact ⟨_, rfl, H.out, HF.out, HLI.out⟩
    · have e : Nt.tellT t a b = (t, 1) := by rw [Nt.tellT, if_pos (fun h => hb h.2)]
      rw [e]
      clear e
      have H := Lib.hid h; clear h; have HR := Lib.hid hr; clear hr; have HB := Lib.hid hb; clear hb
      obtain ⟨a0, a1⟩ := ha
      go_enter Tryz.func89, Tryz.ntmps89
      go_wp2_with fail
      refine (Node_yes _ _ a0 a1).mono ?_; rintro e w' ⟨rfl, rfl⟩
      go_wp2_with fail
      refine (Node_no _ _ HB.out).mono ?_; rintro e w' ⟨rfl, rfl⟩
      go_wp2
      go_ret
      exact NtDo.none H.out (Fr.refl _ _)
  · have e : Nt.tellT t a b = (t, 1) := by rw [Nt.tellT, if_pos (fun h => ha h.1)]
    rw [e]
    clear e
    have H := Lib.hid h; clear h; have HR := Lib.hid hr; clear hr; have HA := Lib.hid ha; clear ha
    go_enter Tryz.func89, Tryz.ntmps89
    go_wp2_with fail
    refine (Node_no _ _ HA.out).mono ?_; rintro e w' ⟨rfl, rfl⟩
    go_wp2
    go_ret
    exact NtDo.none H.out (Fr.refl _ _)
def TickRel (x : Ids) (v0 : Value) (a : Int) (bs : List Nat) (r : Nt.NT × Int) (m : Nat) (lv : Value) (w : World) (base : Nat) (i : Value) (wr : World) : Prop :=
  ∃ (j : Nat) (t : Nt.NT) (v : Value), j ≤ bs.length ∧ i = .int .i64 j ∧ Nt.NOk t m ∧ Nt.tellsT t a (bs.drop j) = r ∧ NtAt wr x v t ∧ Fr (Ft x v0) w wr ∧ (∀ g, v.ownBlock = some g → v0.ownBlock = some g ∨ w.heap.size ≤ g) ∧ Sl wr base lv (ints bs)
theorem Ft.grow {x : Ids} {v v0 : Value} {n i : Nat} (h : ∀ g, v.ownBlock = some g → v0.ownBlock = some g ∨ n ≤ g) (hi : Ft x v i) : Ft x v0 i ∨ n ≤ i := by
  rcases hi with hi | hi | hi | hi
  · exact .inl (.inl hi)
  · exact .inl (.inr (.inl hi))
  · exact .inl (.inr (.inr (.inl hi)))
  · rcases h i hi with h | h
    · exact .inl (.inr (.inr (.inr h)))
    · exact .inr h
theorem Fr.grow {x : Ids} {v v0 : Value} {w wr w' : World} (h1 : Fr (Ft x v0) w wr) (h : ∀ g, v.ownBlock = some g → v0.ownBlock = some g ∨ w.heap.size ≤ g) (h2 : Fr (Ft x v) wr w') : Fr (Ft x v0) w w' :=
  h1.trans' h2 (fun i hi h' => by rcases Ft.grow h h' with h | h; exact h; omega)
theorem grow_trans {v v' v0 : Value} {n m : Nat} (h : ∀ g, v.ownBlock = some g → v0.ownBlock = some g ∨ n ≤ g) (k : ∀ g, v'.ownBlock = some g → v.ownBlock = some g ∨ m ≤ g) (hm : n ≤ m) : ∀ g, v'.ownBlock = some g → v0.ownBlock = some g ∨ n ≤ g := by
  intro g hg
  rcases k g hg with hg | hg
  · exact h g hg
  · exact .inr (by omega)
set_option maxRecDepth 100000 in
set_option maxHeartbeats 4000000 in
theorem Ntick_any (x : Ids) (v : Value) (t : Nt.NT) (a : Int) (m : Nat) (w : World) (hr : Nt.NOk t m) (hm : m ≤ 1000) (h : NtAt w x v t) :
    Calls Tryz.prog 88 #[.pointer (some ⟨x.b, 0, none⟩), .int .i64 a] w (NtDo x v (Nt.tickT t a).1 (Nt.tickT t a).2 w) := by
  by_cases ha : Nt.isN a
  · obtain ⟨p, rfl⟩ := Int.eq_ofNat_of_zero_le ha.1
    have hp : p < 6 := by have := ha.2; omega
    have e : Nt.tickT t p = Nt.tellsT (Nt.tickOk t p) p (ofL t.C p 6) := by rw [Nt.tickT, if_neg (fun h => h ha), Int.toNat_natCast]
    have hok := hr.tickOk hp
    rw [e]
    clear e ha
    have c1 := h.cN hp
    have H := Lib.hid h; clear h; have HR := Lib.hid hr; clear hr; have HOK := Lib.hid hok; clear hok
    go_enter Tryz.func88, Tryz.ntmps88
    go_wp2_with fail
    refine (Node_yes _ _ (by omega) (by omega)).mono ?_; rintro e w' ⟨rfl, rfl⟩
    go_wp2_with fail
    refine (Tick_any (x.N p) (t.N p) _ (HR.out.run p hp).ok.me (HR.out.run p hp).lo (by have := (HR.out.run p hp).hi; omega) (H.out.node p hp)).mono ?_
    rintro e w1 ⟨rfl, hn, hf⟩
    have h1 : NtAt w1 x v (Nt.tickOk t p) := H.out.setN hp hn hf
    have hf1 : Fr (Ft x v) w w1 := hf.mono (fun i _ h => .inr (.inr (.inl ⟨p, hp, h⟩)))
    clear c1 hn hf H
    have c0 := h1.c0
    have H := Lib.hid h1; clear h1; have HF := Lib.hid hf1; clear hf1
    go_wp2_with fail
    refine (Of_yes x.L p t.C _ hp H.out.links).mono ?_
    rintro e w2 ⟨lv, rfl, hl, hf⟩
    have h2 := H.out.keep0 hf
    have hf2 : Fr (Ft x v) w w2 := HF.out.trans (hf.mono (fun _ _ h => h.elim))
    have hb6 := ofL_le t.C p 6
    generalize ofL t.C p 6 = bs at *
    obtain ⟨al, cl, rfl, _⟩ := ownsRow_rd hl
    have hll : (ints bs).length = bs.length := by simp [ints]
    rw [hll]
    clear c0 hf H HF
    have H := Lib.hid h2; clear h2; have HF := Lib.hid hf2; clear hf2; have HL := Lib.hid hl; clear hl; have HLL := Lib.hid hll; clear hll
    go_wp2
    go_loopw [25] (fun i wr => TickRel x v p bs (Nt.tellsT (Nt.tickOk t p) p bs) (m + 1) (.slice al bs.length cl) w w1.heap.size i wr) (fun i _ => bs.length - (intOf i).toNat)
    case atStart => exact ⟨0, _, _, by omega, rfl, HOK.out, rfl, H.out, HF.out, fun g hg => .inl hg, by have := HL.out; rw [HLL.out] at this; exact this⟩
    case round =>
      clear H HF HL HOK HR
      obtain ⟨j, s, u, hj, rfl, hok, hres, h1, hf, hg, hl⟩ := hrel
      have HOK := Lib.hid hok; clear hok; have HRES := Lib.hid hres; clear hres; have H := Lib.hid h1; clear h1; have HF := Lib.hid hf; clear hf; have HG := Lib.hid hg; clear hg; have HL := Lib.hid hl; clear hl
      by_cases hjn : j < bs.length
      · obtain ⟨g, rfl, cg⟩ := Sl.at HL.out (k := j) (by rw [HLL.out]; exact hjn)
        have hb : (ints bs).getD j 0 = (bs[j] : Nat) := by simp [ints, hjn]
        rw [hb] at cg
        have hd : bs.drop j = bs[j] :: bs.drop (j + 1) := List.drop_eq_getElem_cons hjn
        have hr2 := HRES.out
        rw [hd, Nt.tellsT] at hr2
        generalize bs[j] = b at *
        clear hb hd
        have HR2 := Lib.hid hr2; clear hr2
        go_wp2_with fail
        refine (Ntell_any x u s p b (m + 1) _ HOK.out H.out).mono ?_
        rintro e w3 ⟨v', rfl, h2, hf, hg⟩
        have hok2 := HOK.out.tellT p b
        have hf2 := HF.out.grow HG.out hf
        have hg2 := grow_trans HG.out hg HF.out.size
        have hl2 : Sl w3 w1.heap.size (.slice (some ⟨g, 0, none⟩) bs.length cl) (ints bs) := own_keep HL.out hf (H.out.own_off HL.out (by decide) (by decide) (by decide) (by decide))
        clear cg hf hg H HF HG HL HOK
        by_cases hc : (Nt.tellT s p b).2 = 0
        · have hr3 := HR2.out
          rw [if_pos hc] at hr3
          rw [hc]
          clear hc HR2
          have HOK := Lib.hid hok2; clear hok2; have HF := Lib.hid hf2; clear hf2; have HG := Lib.hid hg2; clear hg2; have HL := Lib.hid hl2; clear hl2; have H := Lib.hid h2; clear h2; have HR3 := Lib.hid hr3; clear hr3
          go_wp2
          go_roundw
          case rel => exact ⟨j + 1, _, _, by omega, by go_num, HOK.out, HR3.out, H.out, HF.out, HG.out, HL.out⟩
          case measure => simp [intOf]; omega
        · have hr3 := HR2.out
          rw [if_neg hc] at hr3
          have hcb : ((Nt.tellT s p b).2 != 0) = true := by simp [hc]
          clear hc HR2
          have HOK := Lib.hid hok2; clear hok2; have HF := Lib.hid hf2; clear hf2; have HG := Lib.hid hg2; clear hg2; have HL := Lib.hid hl2; clear hl2; have H := Lib.hid h2; clear h2; have HR3 := Lib.hid hr3; clear hr3
          go_wp2
          go_ret
          rw [← HR3.out]
          exact ⟨_, rfl, H.out, HF.out, HG.out⟩
      · have hr2 := HRES.out
        rw [List.drop_of_length_le (by omega), Nt.tellsT] at hr2
        clear HRES
        have HR2 := Lib.hid hr2; clear hr2
        go_wp2
        go_ret
        rw [← HR2.out]
        exact ⟨_, rfl, H.out, HF.out, HG.out⟩
  · have e : Nt.tickT t a = (t, 1) := by rw [Nt.tickT, if_pos ha]
    rw [e]
    clear e
    have H := Lib.hid h; clear h; have HR := Lib.hid hr; clear hr; have HA := Lib.hid ha; clear ha
    go_enter Tryz.func88, Tryz.ntmps88
    go_wp2_with fail
    refine (Node_no _ _ HA.out).mono ?_; rintro e w' ⟨rfl, rfl⟩
    go_wp2
    go_ret
    exact NtDo.none H.out (Fr.refl _ _)
end Go.Proofs.YteedndapbfihaaaGreat
