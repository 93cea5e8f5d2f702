/- Words for the walks that all families use: rows that are read, worlds under a name, cells that stay; append at a step. -/
import Derived.Test.YtdkkeaegmmepfaaKit
import Derived.StillTailTactics
import Derived.Deep.RegionHeld3
import Derived.Deep.RegionLaw
import Derived.Deep.AppendLies
import Derived.Lib.SliceRun
namespace Go.Proofs.Ytdkkeaegmmepfaa
open Go.RowKit Go.Deep

theorem still_tail {P : Program} {id : Nat} {Q : Exit → Act → World → Prop} {a : Act} {w : World} {l : List Oper} (n : Nat) (hm : P.follows .mixedOrders = true) (hB : Region.lexTailB .any l.toArray n = true)
    (h : wpStill P l.toArray w.drew (fun a' => wpList P l.toArray Q (l.drop n) a' w.drew) (l.take n) a) : (Code.region id l.toArray true).wp P Q a w :=
  wp_region_still_tail n hm hB h
/-- The world under a name. -/
theorem wp_name {P : Program} {c : Code} {Q : Exit → Act → World → Prop} {a : Act} {W : World} (h : ∀ w1, w1 = W → c.wp P Q a w1) : c.wp P Q a W := h W rfl
theorem ret_bool {a b : Bool} (h : a = b) : Ending.returned (.bool a) = .returned (.bool b) := by rw [h]
theorem ret_int {k : IntKind} {a b : Int} (h : a = b) : Ending.returned (.int k a) = .returned (.int k b) := by rw [h]
def BoolFr (r : Bool) (w : World) (e : Ending) (w' : World) : Prop := e = .returned (.bool r) ∧ Fr NoB w w'
theorem Fr.one {b : Nat} {w w' : World} (h : Fr NoB w w') : Fr (OneB b) w w' := h.mono (fun _ _ h => h.elim)
theorem Rd.row {w : World} {g : Nat} {t : TypeId} {n : Nat} {f : Nat → Int} (h : w.rowIs g t n (I f)) : Rd w (some ⟨g, 0, none⟩) n f := fun k hk => ⟨g, 0, rfl, by rw [Nat.zero_add]; exact rowI_cell h hk⟩
theorem Rd.keep {S : Nat → Prop} {w w' : World} {a : Option Addr} {n : Nat} {X : Nat → Int} (h : Rd w a n X) (hf : Fr S w w') (hS : ∀ p, a = some p → ¬ S p.block) : Rd w' a n X := by
  intro k hk
  obtain ⟨b, off, h1, h2⟩ := h k hk
  refine ⟨b, off, h1, ?_⟩
  rw [World.cell?_of_block (w := w) (hf.block b (World.block_lt_of_cell? w _ h2) (hS ⟨b, off, none⟩ h1))]
  exact h2
theorem Rd.drewN {w : World} {a : Option Addr} {n : Nat} {X : Nat → Int} (h : Rd w a n X) (m : Nat) : Rd (w.drewN m) a n X := h
theorem Sl.rd {w : World} {base : Nat} {v : Value} {xs : List Int} (h : Sl w base v xs) : ∃ a cap, v = .slice a xs.length cap ∧ Rd w a xs.length (fun i => xs.getD i 0) ∧ ∀ p, a = some p → base ≤ p.block := by
  rcases h.shape with ⟨h1, h2⟩ | ⟨g, cap, h1, h2, _, h3⟩
  · subst h2
    exact ⟨none, 0, h1, fun k hk => absurd hk (by simp), fun p hp => by cases hp⟩
  · exact ⟨some ⟨g, 0, none⟩, cap, h1, fun i hi => ⟨g, 0, rfl, by rw [Nat.zero_add]; exact h3 i hi⟩, fun p hp => by cases hp; exact h2⟩
theorem cell_fr {S : Nat → Prop} {w w' : World} (h : Fr S w w') {a : Addr} {v : Value} (hc : w.cell? a = some v) (hS : ¬ S a.block) : w'.cell? a = some v := by
  rw [World.cell?_of_block (w := w) (h.block a.block (World.block_lt_of_cell? w a hc) hS)]
  exact hc
theorem ownsRow_rd {w : World} {base : Nat} {e : TypeId} {size : Nat} {v : Value} {n : Nat} {xs : List Int} (h : w.ownsRow base e size v n (xs.map (Value.int .i64))) :
    ∃ a cap, v = .slice a n cap ∧ Rd w a (n * size) (fun i => xs.getD i 0) ∧ (∀ p, a = some p → base ≤ p.block) ∧ (a = none → cap = 0) ∧ n ≤ cap ∧ cap ≤ maxLen ∧ ∀ p, a = some p → p = ⟨p.block, 0, none⟩ := by
  have hlen := h.1
  have hc := fun g => World.ownsRow.cells (g := g) h
  rcases h.2 with ⟨rfl, rfl⟩ | ⟨g, cap, cur, rfl, h2, h3, h4, h5, _⟩
  · exact ⟨none, 0, rfl, fun k hk => absurd hk (by omega), fun p hp => by (cases hp), fun _ => rfl, Nat.le_refl _, by unfold maxLen; omega, fun p hp => by (cases hp)⟩
  · refine ⟨some ⟨g, 0, none⟩, cap, rfl, fun i hi => ⟨g, 0, rfl, ?_⟩, fun p hp => by (cases hp; exact h2), fun h => by (cases h), h4, h5, fun p hp => by (cases hp; rfl)⟩
    have hi' : i < xs.length := by simp only [List.length_map] at hlen; omega
    have := hc g rfl i (.int .i64 (xs.getD i 0)) (by simp [hi'])
    rw [add_base] at this
    rw [Nat.zero_add]
    exact this
theorem rowIs_setCells {b : Nat} {t : TypeId} {n : Nat} : ∀ (vs : List Value) (o : Nat) (w : World) (f : Nat → Value), w.rowIs b t n f → (w.setCells b o vs).rowIs b t n (fun i => if o ≤ i ∧ i < o + vs.length then vs.getD (i - o) (f i) else f i)
  | [], o, w, f, h => h.congr (fun i _ => by rw [if_neg (by simp)])
  | v :: r, o, w, f, h => by
    have := rowIs_setCells r (o + 1) _ _ (World.rowIs.set h o v)
    refine World.rowIs.congr this (fun i _ => ?_)
    by_cases h1 : i = o
    · subst h1
      rw [if_neg (by omega), if_pos rfl, if_pos (by simp)]
      simp
    · by_cases h2 : o + 1 ≤ i ∧ i < o + 1 + r.length
      · have h3 : o ≤ i ∧ i < o + (v :: r).length := by simp only [List.length_cons]; omega
        simp only [if_pos h2, if_neg h1, if_pos h3]
        rw [show i - o = (i - (o + 1)) + 1 from by omega]
        rfl
      · rw [if_neg h2, if_neg h1, if_neg (by simp; omega)]
theorem Fr.setCells {S : Nat → Prop} {a : World} {g : Nat} (hg : S g) : ∀ (vs : List Value) (o : Nat) {w : World}, Fr S a w → Fr S a (w.setCells g o vs)
  | [], _, _, h => h
  | v :: r, o, _, h => Fr.setCells hg r (o + 1) (h.setCell (p := ⟨g, o, none⟩) (.inl hg) v)
theorem own_row {w : World} {base g : Nat} {e : TypeId} {size n cap : Nat} {xs : List Value} (h : w.ownsRow base e size (.slice (some ⟨g, 0, none⟩) n cap) n xs) :
    n ≤ cap ∧ cap ≤ maxLen ∧ base ≤ g ∧ ∃ f : Nat → Value, w.rowIs g e (cap * size) f ∧ ∀ k, k < n * size → xs[k]? = some (f k) := by
  rcases h.2 with ⟨h1, _⟩ | ⟨g', cap', cur, h1, h2, h3, h4, h5, h6, h7⟩
  · cases h1
  · cases h1
    refine ⟨h4, h5, h2, fun i => cur.getD i (.int .i64 0), ⟨cur, h3, h6, fun i hi => ?_⟩, fun k hk => ?_⟩
    · simp [Array.getD, h6, hi]
    · have hk2 : k < cur.size := by rw [h6]; exact Nat.lt_of_lt_of_le hk (Nat.mul_le_mul_right _ h4)
      rw [← h7, List.getElem?_take, if_pos hk]
      simp [Array.getD, hk2]
theorem row_own {w : World} {base g : Nat} {e : TypeId} {size n cap : Nat} {xs : List Value} {f : Nat → Value} (h : w.rowIs g e (cap * size) f) (hg : base ≤ g) (hn : n ≤ cap) (hc : cap ≤ maxLen) (hl : xs.length = n * size) (hx : ∀ k, k < n * size → xs[k]? = some (f k)) :
    w.ownsRow base e size (.slice (some ⟨g, 0, none⟩) n cap) n xs := by
  obtain ⟨cur, h3, h6, h7⟩ := h
  refine ⟨hl, .inr ⟨g, cap, cur, rfl, hg, h3, hn, hc, h6, ?_⟩⟩
  apply List.ext_getElem?
  intro k
  by_cases hk : k < n * size
  · rw [List.getElem?_take, if_pos hk, hx k hk]
    have := h7 k (Nat.lt_of_lt_of_le hk (Nat.mul_le_mul_right _ hn))
    simpa using this
  · rw [List.getElem?_eq_none (by simp; omega), List.getElem?_eq_none (by omega)]
theorem rowI_set {w : World} {b : Nat} {t : TypeId} {n : Nat} {f g : Nat → Int} (h : w.rowIs b t n (I f)) (i : Nat) (v : Int) (e : ∀ j, j < n → g j = if j = i then v else f j) : (w.setCell ⟨b, i, none⟩ (.int .i64 v)).rowIs b t n (I g) := by
  refine (World.rowIs.set h i (.int .i64 v)).congr ?_
  intro j hj
  unfold I
  rw [e j hj]
  split <;> rfl
/-- 'append(s, x..)', and where the row lies then. -/
theorem app_lies {P : Program} {ops : Array Oper} {rest : List Oper} {o : Oper} {a : Act} {w : World} {Q : Exit → Act → World → Prop} (hgd : o.guard = none) (s x : Operand) (t e : TypeId) (size bytes : Nat) (z : Value)
    (ho : o.op = .call { callee := .builtin .append, args := #[s, x], argTypes := #[t, t] })
    (ht : P.underlying t = some (.slice e)) (hinfo : (P.info? e).map (fun i => (i.zero, i.size, i.bytes)) = some (some z, size, bytes)) (hzs : z.cells.size = size) (hsz : 0 < size)
    (base : Nat) (v : Value) (n : Nat) (xs : List Value) (hs : a.eval s = v) (hown : w.ownsRow base e size v n xs)
    (ad : Addr) (m c : Nat) (news : List Value) (hx : a.eval x = .slice (some ad) m c) (hl : news.length = m * size) (hnews : ∀ j u, news[j]? = some u → w.cell? (ad.add j) = some u) (h1 : ∀ u ∈ news, u.oneCell' = true)
    (hm : 0 < m) (h63 : n + m ≤ 2147483648) (hb : bytes ≤ 4096) (hbase : base ≤ w.heap.size)
    (h : ∀ g cap w', w'.ownsRow base e size (.slice (some ⟨g, 0, none⟩) (n + m) cap) (n + m) (xs ++ news) → Fr (fun i => v.ownBlock = some i) w w' → (v.ownBlock = some g ∨ w.heap.size ≤ g) → wpList P ops Q rest (a.put o.dst (.slice (some ⟨g, 0, none⟩) (n + m) cap)) w') : wpList P ops Q (o :: rest) a w := by
  obtain ⟨i0, hi, hz0, hz1, hz2⟩ := info_parts hinfo
  refine wpList_plain hgd fun _ hK => wp_append_lies w s x t ho base e i0 z size bytes ht hi hz0 hz1 hz2 hzs hsz v n xs hs hown ad m c news hx hl hnews h1 hm (by unfold maxLen; omega) (Nat.le_trans (Nat.mul_le_mul h63 hb) (by omega)) hbase w.heap.size rfl fun g cap w' h2 h3 h4 _ => hK _ _ (h g cap w' h2 ((Fr.refl _ _).grown h3 (fun k hk => .inl hk)) (by rcases h4 with h4 | h4; exact .inl h4; exact .inr (by omega)))
theorem step_lies {P : Program} {ops : Array Oper} {o : Oper} {a : Act} {w : World} {K : Act → World → Prop} {Q : Exit → Act → World → Prop} {E : Prop} (hgd : o.guard = none) (s x : Operand) (t e : TypeId) (size bytes : Nat) (z : Value)
    (ho : o.op = .call { callee := .builtin .append, args := #[s, x], argTypes := #[t, t] })
    (ht : P.underlying t = some (.slice e)) (hinfo : (P.info? e).map (fun i => (i.zero, i.size, i.bytes)) = some (some z, size, bytes)) (hzs : z.cells.size = size) (hsz : 0 < size)
    (base : Nat) (v : Value) (n : Nat) (xs : List Value) (hs : a.eval s = v) (hown : w.ownsRow base e size v n xs)
    (ad : Addr) (m c : Nat) (news : List Value) (hx : a.eval x = .slice (some ad) m c) (hl : news.length = m * size) (hnews : ∀ j u, news[j]? = some u → w.cell? (ad.add j) = some u) (h1 : ∀ u ∈ news, u.oneCell' = true)
    (hm : 0 < m) (h63 : n + m ≤ 2147483648) (hb : bytes ≤ 4096) (hbase : base ≤ w.heap.size)
    (h : ∀ g cap w', w'.ownsRow base e size (.slice (some ⟨g, 0, none⟩) (n + m) cap) (n + m) (xs ++ news) → Fr (fun i => v.ownBlock = some i) w w' → (v.ownBlock = some g ∨ w.heap.size ≤ g) → K (a.put o.dst (.slice (some ⟨g, 0, none⟩) (n + m) cap)) w') :
    if Region.wanted o (yielded ops a.tmps) = true then Oper.wp P o a w K Q else E := by
  obtain ⟨i0, hi, hz0, hz1, hz2⟩ := info_parts hinfo
  exact step_append_lies w hgd s x t ho base e i0 z size bytes ht hi hz0 hz1 hz2 hzs hsz v n xs hs hown ad m c news hx hl hnews h1 hm (by unfold maxLen; omega) (Nat.le_trans (Nat.mul_le_mul h63 hb) (by omega)) hbase w.heap.size rfl fun g cap w' h2 h3 h4 _ => h g cap w' h2 ((Fr.refl _ _).grown h3 (fun k hk => .inl hk)) (by rcases h4 with h4 | h4; exact .inl h4; exact .inr (by omega))
theorem step_own {P : Program} {ops : Array Oper} {o : Oper} {a : Act} {w : World} {K : Act → World → Prop} {Q : Exit → Act → World → Prop} {E : Prop} (hgd : o.guard = none) (s x : Operand) (t e : TypeId) (size bytes : Nat) (z : Value)
    (ho : o.op = .call { callee := .builtin .append, args := #[s, x], argTypes := #[t, t] })
    (ht : P.underlying t = some (.slice e)) (hinfo : (P.info? e).map (fun i => (i.zero, i.size, i.bytes)) = some (some z, size, bytes)) (hzs : z.cells.size = size) (hsz : 0 < size)
    (base : Nat) (v : Value) (n : Nat) (xs : List Value) (hs : a.eval s = v) (hown : w.ownsRow base e size v n xs)
    (ad : Addr) (m c : Nat) (news : List Value) (hx : a.eval x = .slice (some ad) m c) (hl : news.length = m * size) (hnews : ∀ j u, news[j]? = some u → w.cell? (ad.add j) = some u) (h1 : ∀ u ∈ news, u.oneCell' = true)
    (h63 : n + m ≤ 2147483648) (hb : bytes ≤ 4096) (hbase : base ≤ w.heap.size)
    (h : ∀ v' w', w'.ownsRow base e size v' (n + m) (xs ++ news) → Fr (fun i => v.ownBlock = some i) w w' → K (a.put o.dst v') w') :
    if Region.wanted o (yielded ops a.tmps) = true then Oper.wp P o a w K Q else E := by
  have hw : Region.wanted o (yielded ops a.tmps) = true := by simp [Region.wanted, hgd]
  rw [if_pos hw]
  obtain ⟨i0, hi, hz0, hz1, hz2⟩ := info_parts hinfo
  exact wp_append_own w s x t ho base e i0 z size bytes ht hi hz0 hz1 hz2 hzs hsz v n xs hs hown ad m c news hx hl hnews h1 (by unfold maxLen; omega) (Nat.le_trans (Nat.mul_le_mul h63 hb) (by omega)) hbase fun v' w' h2 h3 _ => h v' w' h2 ((Fr.refl _ _).grown h3 (fun k hk => .inl hk))
def TrueFr (w : World) (e : Ending) (w' : World) : Prop := e = .returned (.bool true) ∧ Fr NoB w w'
theorem cell_fr' {S : Nat → Prop} {w w' : World} (hf : Fr S w w') {b o : Nat} {v : Value} (h : w.cell? ⟨b, o, none⟩ = some v) (hS : ¬ S b) : w'.cell? ⟨b, o, none⟩ = some v := by
  rw [World.cell?_of_block (w := w) (hf.block b (World.block_lt_of_cell? w _ h) hS)]
  exact h
end Go.Proofs.Ytdkkeaegmmepfaa
