/- Words that all walks of this seat use: what a call may have turned (Fr), rows of integers, the endings of calls. -/
import Derived.Test.YteedndapbfihaaaGreatRows
import Derived.WalkKit
import Derived.WalkSpells
import Derived.WalkLawsBesides
import Derived.Deep.QuietTactic
import Derived.BigQuiet
import Derived.BigRegion
import Derived.Deep.OwnRows
import Derived.Deep.LoopGhost
import Derived.Deep.DeepCutAuto
import Derived.Lib.Hide
import Derived.StillTailTactics
import Derived.Deep.RegionHeld3
import Derived.Deep.RegionLaw
import Derived.Deep.AppendLies
import Derived.Lib.SliceRun
namespace Go.Proofs.YteedndapbfihaaaGreat
open Go.RowKit Go.Deep

/-- What a call may have turned: the blocks of S, and new ones. -/
structure Fr (S : Nat → Prop) (w w' : World) : Prop where
  os : w'.os = w.os
  tape : w'.tape = w.tape
  output : w'.output = w.output
  size : w.heap.size ≤ w'.heap.size
  block : ∀ k, k < w.heap.size → ¬ S k → w'.heap[k]? = w.heap[k]?

/-- Nothing that was there has turned. -/
def NoB : Nat → Prop := fun _ => False
/-- Block b alone may have turned. -/
def OneB (b : Nat) : Nat → Prop := fun k => k = b

theorem Fr.refl (S : Nat → Prop) (w : World) : Fr S w w := ⟨rfl, rfl, rfl, Nat.le_refl _, fun _ _ _ => rfl⟩
theorem Fr.trans {S : Nat → Prop} {a b c : World} (h : Fr S a b) (k : Fr S b c) : Fr S a c :=
  ⟨k.os.trans h.os, k.tape.trans h.tape, k.output.trans h.output, Nat.le_trans h.size k.size,
    fun i hi hs => (k.block i (Nat.lt_of_lt_of_le hi h.size) hs).trans (h.block i hi hs)⟩
/-- Two steps; what the second one may have turned of the first one's old memory lies in the first one's S. -/
theorem Fr.trans' {S T : Nat → Prop} {a b c : World} (h : Fr S a b) (k : Fr T b c) (hT : ∀ i, i < a.heap.size → T i → S i) : Fr S a c :=
  ⟨k.os.trans h.os, k.tape.trans h.tape, k.output.trans h.output, Nat.le_trans h.size k.size,
    fun i hi hs => (k.block i (Nat.lt_of_lt_of_le hi h.size) (fun ht => hs (hT i hi ht))).trans (h.block i hi hs)⟩
theorem Fr.mono {S T : Nat → Prop} {w w' : World} (h : Fr S w w') (hT : ∀ i, i < w.heap.size → S i → T i) : Fr T w w' :=
  ⟨h.os, h.tape, h.output, h.size, fun i hi hs => h.block i hi (fun hi' => hs (hT i hi hi'))⟩
theorem Fr.drew {S : Nat → Prop} {a w : World} (h : Fr S a w) : Fr S a w.drew := ⟨h.os, h.tape, h.output, h.size, h.block⟩
theorem Fr.drewN {S : Nat → Prop} {a w : World} (h : Fr S a w) (n : Nat) : Fr S a (w.drewN n) := ⟨h.os, h.tape, h.output, h.size, h.block⟩
theorem Fr.alloc {S : Nat → Prop} {a w : World} (h : Fr S a w) (o : Obj) : Fr S a (w.alloc o) :=
  ⟨h.os, h.tape, h.output, Nat.le_trans h.size (by simp), fun i hi hs => (Below.heap_alloc w o i (Nat.lt_of_lt_of_le hi h.size)).trans (h.block i hi hs)⟩
theorem Fr.setCell {S : Nat → Prop} {a w : World} (h : Fr S a w) {p : Addr} (hp : S p.block ∨ a.heap.size ≤ p.block) (u : Value) : Fr S a (w.setCell p u) :=
  ⟨h.os, h.tape, h.output, by simpa [World.setCell] using h.size, fun i hi hs => (Below.heap_setCell w p u i (by
    rintro rfl
    rcases hp with hp | hp
    · exact hs hp
    · omega)).trans (h.block i hi hs)⟩
theorem Fr.set1 {b : Nat} {a w : World} (h : Fr (OneB b) a w) (o : Nat) (u : Value) : Fr (OneB b) a (w.setCell ⟨b, o, none⟩ u) := h.setCell (p := ⟨b, o, none⟩) (.inl rfl) u
theorem Fr.setNew {S : Nat → Prop} {a w : World} (h : Fr S a w) {b : Nat} (hb : a.heap.size ≤ b) (o : Nat) (u : Value) : Fr S a (w.setCell ⟨b, o, none⟩ u) := h.setCell (p := ⟨b, o, none⟩) (.inr hb) u
theorem Fr.grown {S : Nat → Prop} {a w w' : World} {row : Option Nat} (h : Fr S a w) (hg : w.grownBy w' row) (hr : ∀ k, row = some k → S k ∨ a.heap.size ≤ k) : Fr S a w' :=
  ⟨hg.os.trans h.os, hg.tape.trans h.tape, hg.output.trans h.output, Nat.le_trans h.size hg.size, fun k hk hs => (hg.block k (Nat.lt_of_lt_of_le hk h.size) (fun e => by
    rcases hr k e.symm with h1 | h1
    · exact hs h1
    · omega)).trans (h.block k hk hs)⟩
theorem Fr.own {S : Nat → Prop} {a w w' : World} (h : Fr S a w) (k : Fr (fun i => a.heap.size ≤ i) w w') : Fr S a w' :=
  h.trans' k (fun i hi hi' => by omega)
theorem Fr.below {w w' : World} (h : Fr NoB w w') : Below w.heap.size w w' := ⟨h.os, h.tape, h.output, h.size, fun k hk => h.block k hk (fun h => h)⟩
theorem Fr.row {S : Nat → Prop} {w w' : World} (h : Fr S w w') {b : Nat} {t : TypeId} {n : Nat} {f : Nat → Value} (hr : w.rowIs b t n f) (hb : ¬ S b) : w'.rowIs b t n f :=
  hr.of_block (h.block b hr.lt hb)

/-- A new row, all cells alike. -/
theorem rowIs_new (w : World) (n : Nat) (v : Value) (t : TypeId) : (w.alloc (.cells (Array.replicate n v) t)).rowIs w.heap.size t n (fun _ => v) := by
  have h := World.rowIs_alloc w (Array.replicate n v) t (fun _ => v) (by intro i hi; simp at hi; simp [hi])
  simpa using h

/-- A slice of integers of the call's own, from block 'base' on. -/
def Sl (w : World) (base : Nat) (v : Value) (xs : List Int) : Prop := w.ownsRow base 3 1 v xs.length (xs.map (Value.int .i64))
theorem Sl.nil (w : World) (base : Nat) : Sl w base (.slice none 0 0) [] := World.ownsRow_nil _ _ _ _

theorem add_base (g i : Nat) : (⟨g, 0, none⟩ : Addr).add i = ⟨g, i, none⟩ := by
  unfold Addr.add
  split
  · rename_i h; rw [h]
  · simp
theorem Sl.shape {w : World} {base : Nat} {v : Value} {xs : List Int} (h : Sl w base v xs) : (v = .slice none 0 0 ∧ xs = []) ∨
    ∃ g cap, v = .slice (some ⟨g, 0, none⟩) xs.length cap ∧ base ≤ g ∧ g < w.heap.size ∧ ∀ i, i < xs.length → w.cell? ⟨g, i, none⟩ = some (.int .i64 (xs.getD i 0)) := by
  have hlt := World.ownsRow.lt h
  have hc := fun g => World.ownsRow.cells (g := g) h
  rcases h.2 with ⟨h1, h2⟩ | ⟨g, cap, cur, h1, h2, _⟩
  · exact .inl ⟨h1, List.eq_nil_of_length_eq_zero h2⟩
  · refine .inr ⟨g, cap, h1, h2, (hlt g (by rw [h1]; rfl)).2, fun i hi => ?_⟩
    have := hc g (by rw [h1]; rfl) i (.int .i64 (xs.getD i 0)) (by simp [hi])
    rw [add_base] at this
    exact this
theorem Sl.keep {S : Nat → Prop} {w w' : World} {base : Nat} {v : Value} {xs : List Int} (h : Sl w base v xs) (hf : Fr S w w') (hS : ∀ k, base ≤ k → ¬ S k) : Sl w' base v xs := by
  refine ⟨h.1, ?_⟩
  rcases h.2 with hn | ⟨g, cap, cur, h1, h2, h3, h4⟩
  · exact .inl hn
  · have hlt : g < w.heap.size := (World.ownsRow.lt h g (by rw [h1]; rfl)).2
    exact .inr ⟨g, cap, cur, h1, h2, (hf.block g hlt (hS g h2)).trans h3, h4⟩

theorem Fr.ownB {S : Nat → Prop} {a w w' : World} {v : Value} {base : Nat} {e : TypeId} {size n : Nat} {xs : List Value} (h : Fr S a w) (hown : w.ownsRow base e size v n xs) (hb : a.heap.size ≤ base) (k : Fr (fun i => v.ownBlock = some i) w w') : Fr S a w' :=
  h.trans' k (fun i hi hi' => by have := (World.ownsRow.lt hown i hi').1; omega)
/-- A row that is owned stays so when only another one's block turns. -/
theorem own_keep {S : Nat → Prop} {w w' : World} {base : Nat} {e : TypeId} {size : Nat} {v : Value} {n : Nat} {xs : List Value} (h : w.ownsRow base e size v n xs) (hf : Fr S w w') (hS : ∀ g, v.ownBlock = some g → ¬ S g) : w'.ownsRow base e size v n xs := by
  refine ⟨h.1, ?_⟩
  rcases h.2 with hn | ⟨g, cap, cur, h1, h2, h3, h4⟩
  · exact .inl hn
  · have hlt : g < w.heap.size := (World.ownsRow.lt h g (by rw [h1]; rfl)).2
    exact .inr ⟨g, cap, cur, h1, h2, (hf.block g hlt (hS g (by rw [h1]; rfl))).trans h3, h4⟩
/-- Two owned rows of two element types are not one block. -/
theorem own_apart {w : World} {b1 b2 : Nat} {e1 e2 : TypeId} {s1 s2 : Nat} {v1 v2 : Value} {n1 n2 : Nat} {x1 x2 : List Value} (h1 : w.ownsRow b1 e1 s1 v1 n1 x1) (h2 : w.ownsRow b2 e2 s2 v2 n2 x2) (he : e1 ≠ e2) : ∀ g, v1.ownBlock = some g → ¬ v2.ownBlock = some g := by
  intro g hg1 hg2
  rcases h1.2 with ⟨rfl, _⟩ | ⟨g1, c1, u1, rfl, _, k1, _⟩
  · cases hg1
  · rcases h2.2 with ⟨rfl, _⟩ | ⟨g2, c2, u2, rfl, _, k2, _⟩
    · cases hg2
    · cases hg1; cases hg2
      rw [k1] at k2
      simp only [Option.some.injEq, Obj.cells.injEq] at k2
      exact he k2.2.1

/-- 'append(s, x..)' onto a slice of the call's own: what is owned behind it; what has turned. -/
theorem app_own {P : Program} {ops : Array Oper} {rest : List Oper} {o : Oper} {a : Act} {w : World} {Q : Exit → Act → World → Prop} (hgd : o.guard = none) (s x : Operand) (t e : TypeId) (size bytes : Nat) (z : Value)
    (ho : o.op = .call { callee := .builtin .append, args := #[s, x], argTypes := #[t, t] })
    (ht : P.underlying t = some (.slice e)) (hinfo : (P.info? e).map (fun i => (i.zero, i.size, i.bytes)) = some (some z, size, bytes)) (hzs : z.cells.size = size) (hsz : 0 < size)
    (base : Nat) (v : Value) (n : Nat) (xs : List Value) (hs : a.eval s = v) (hown : w.ownsRow base e size v n xs)
    (ad : Addr) (m c : Nat) (news : List Value) (hx : a.eval x = .slice (some ad) m c) (hl : news.length = m * size) (hnews : ∀ j u, news[j]? = some u → w.cell? (ad.add j) = some u) (h1 : ∀ u ∈ news, u.oneCell' = true)
    (h63 : n + m ≤ 2147483648) (hb : bytes ≤ 4096) (hbase : base ≤ w.heap.size)
    (h : ∀ v' w', w'.ownsRow base e size v' (n + m) (xs ++ news) → Fr (fun i => v.ownBlock = some i) w w' → wpList P ops Q rest (a.put o.dst v') w') : wpList P ops Q (o :: rest) a w := by
  obtain ⟨i0, hi, hz0, hz1, hz2⟩ := info_parts hinfo
  refine wpList_append_own w hgd s x t ho base e i0 z size bytes ht hi hz0 hz1 hz2 hzs hsz v n xs hs hown ad m c news hx hl hnews h1 (by unfold maxLen; omega) ?_ hbase ?_
  · exact Nat.le_trans (Nat.mul_le_mul h63 hb) (by omega)
  · intro v' w' h2 h3 _
    exact h v' w' h2 ((Fr.refl _ _).grown h3 (fun k hk => .inl hk))

/-- The same for one integer, which a block of its own holds. -/
theorem app_int {P : Program} {ops : Array Oper} {rest : List Oper} {o : Oper} {a : Act} {w : World} {Q : Exit → Act → World → Prop} (hgd : o.guard = none) (s x : Operand) (t : TypeId)
    (ho : o.op = .call { callee := .builtin .append, args := #[s, x], argTypes := #[t, t] })
    (ht : P.underlying t = some (.slice 3)) (hinfo : (P.info? 3).map (fun i => (i.zero, i.size, i.bytes)) = some (some (.int .i64 0), 1, 8))
    (base : Nat) (v : Value) (xs : List Int) (hs : a.eval s = v) (hown : Sl w base v xs)
    (ad : Addr) (y : Int) (hx : a.eval x = .slice (some ad) 1 1) (hy : w.cell? ad = some (.int .i64 y))
    (h63 : xs.length < 2147483648) (hbase : base ≤ w.heap.size)
    (h : ∀ v' w', Sl w' base v' (xs ++ [y]) → Fr (fun i => base ≤ i) w w' → wpList P ops Q rest (a.put o.dst v') w') : wpList P ops Q (o :: rest) a w := by
  refine app_own hgd s x t 3 1 8 (.int .i64 0) ho ht hinfo rfl (by omega) base v xs.length (xs.map (Value.int .i64)) hs hown ad 1 1 [.int .i64 y] hx rfl ?_ ?_ (by omega) (by omega) hbase ?_
  · intro j u hj
    match j, hj with
    | 0, hj => simp at hj; subst hj; simpa [Addr.add] using hy
  · intro u hu; simp at hu; subst hu; rfl
  · intro v' w' h2 h3
    refine h v' w' ?_ (h3.mono (fun i _ hi => (World.ownsRow.lt hown i hi).1))
    unfold Sl
    simpa using h2
theorem Sl.alloc {w : World} {base : Nat} {v : Value} {xs : List Int} (h : Sl w base v xs) (o : Obj) : Sl (w.alloc o) base v xs := World.ownsRow.alloc h o

/-- A row of integers. -/
def I (f : Nat → Int) : Nat → Value := fun i => .int .i64 (f i)
theorem rowI_cell {w : World} {b : Nat} {t : TypeId} {n : Nat} {f : Nat → Int} (h : w.rowIs b t n (I f)) {i : Nat} (hi : i < n) : w.cell? ⟨b, i, none⟩ = some (.int .i64 (f i)) := h.cell hi
/-- A slice's cells: n integers from its address on. -/
def Rd (w : World) (a : Option Addr) (n : Nat) (X : Nat → Int) : Prop := ∀ k, k < n → ∃ b off, a = some ⟨b, off, none⟩ ∧ w.cell? ⟨b, off + k, none⟩ = some (.int .i64 (X k))

end Go.Proofs.YteedndapbfihaaaGreat
/- Words for the walks that all families use: rows that are read, worlds under a name, cells that stay; append at a step. -/
namespace Go.Proofs.YteedndapbfihaaaGreat
open Go.RowKit Go.Deep

theorem still_tail {P : Program} {id : Nat} {Q : Exit → Act → World → Prop} {a : Act} {w : World} {l : List Oper} (n : Nat) (hm : P.follows .mixedOrders = true) (hB : Region.lexTailB .any l.toArray n = true)
    (h : wpStill P l.toArray w.drew (fun a' => wpList P l.toArray Q (l.drop n) a' w.drew) (l.take n) a) : (Code.region id l.toArray true).wp P Q a w :=
  wp_region_still_tail n hm hB h
/-- The world under a name. -/
theorem wp_name {P : Program} {c : Code} {Q : Exit → Act → World → Prop} {a : Act} {W : World} (h : ∀ w1, w1 = W → c.wp P Q a w1) : c.wp P Q a W := h W rfl
theorem ret_bool {a b : Bool} (h : a = b) : Ending.returned (.bool a) = .returned (.bool b) := by rw [h]
theorem ret_int {k : IntKind} {a b : Int} (h : a = b) : Ending.returned (.int k a) = .returned (.int k b) := by rw [h]
def BoolFr (r : Bool) (w : World) (e : Ending) (w' : World) : Prop := e = .returned (.bool r) ∧ Fr NoB w w'
theorem Fr.one {b : Nat} {w w' : World} (h : Fr NoB w w') : Fr (OneB b) w w' := h.mono (fun _ _ h => h.elim)
theorem Rd.row {w : World} {g : Nat} {t : TypeId} {n : Nat} {f : Nat → Int} (h : w.rowIs g t n (I f)) : Rd w (some ⟨g, 0, none⟩) n f := fun k hk => ⟨g, 0, rfl, by rw [Nat.zero_add]; exact rowI_cell h hk⟩
theorem Rd.keep {S : Nat → Prop} {w w' : World} {a : Option Addr} {n : Nat} {X : Nat → Int} (h : Rd w a n X) (hf : Fr S w w') (hS : ∀ p, a = some p → ¬ S p.block) : Rd w' a n X := by
  intro k hk
  obtain ⟨b, off, h1, h2⟩ := h k hk
  refine ⟨b, off, h1, ?_⟩
  rw [World.cell?_of_block (w := w) (hf.block b (World.block_lt_of_cell? w _ h2) (hS ⟨b, off, none⟩ h1))]
  exact h2
theorem Rd.drewN {w : World} {a : Option Addr} {n : Nat} {X : Nat → Int} (h : Rd w a n X) (m : Nat) : Rd (w.drewN m) a n X := h
theorem Sl.rd {w : World} {base : Nat} {v : Value} {xs : List Int} (h : Sl w base v xs) : ∃ a cap, v = .slice a xs.length cap ∧ Rd w a xs.length (fun i => xs.getD i 0) ∧ ∀ p, a = some p → base ≤ p.block := by
  rcases h.shape with ⟨h1, h2⟩ | ⟨g, cap, h1, h2, _, h3⟩
  · subst h2
    exact ⟨none, 0, h1, fun k hk => absurd hk (by simp), fun p hp => by cases hp⟩
  · exact ⟨some ⟨g, 0, none⟩, cap, h1, fun i hi => ⟨g, 0, rfl, by rw [Nat.zero_add]; exact h3 i hi⟩, fun p hp => by cases hp; exact h2⟩
theorem cell_fr {S : Nat → Prop} {w w' : World} (h : Fr S w w') {a : Addr} {v : Value} (hc : w.cell? a = some v) (hS : ¬ S a.block) : w'.cell? a = some v := by
  rw [World.cell?_of_block (w := w) (h.block a.block (World.block_lt_of_cell? w a hc) hS)]
  exact hc
theorem ownsRow_rd {w : World} {base : Nat} {e : TypeId} {size : Nat} {v : Value} {n : Nat} {xs : List Int} (h : w.ownsRow base e size v n (xs.map (Value.int .i64))) :
    ∃ a cap, v = .slice a n cap ∧ Rd w a (n * size) (fun i => xs.getD i 0) ∧ (∀ p, a = some p → base ≤ p.block) ∧ (a = none → cap = 0) ∧ n ≤ cap ∧ cap ≤ maxLen ∧ ∀ p, a = some p → p = ⟨p.block, 0, none⟩ := by
  have hlen := h.1
  have hc := fun g => World.ownsRow.cells (g := g) h
  rcases h.2 with ⟨rfl, rfl⟩ | ⟨g, cap, cur, rfl, h2, h3, h4, h5, _⟩
  · exact ⟨none, 0, rfl, fun k hk => absurd hk (by omega), fun p hp => by (cases hp), fun _ => rfl, Nat.le_refl _, by unfold maxLen; omega, fun p hp => by (cases hp)⟩
  · refine ⟨some ⟨g, 0, none⟩, cap, rfl, fun i hi => ⟨g, 0, rfl, ?_⟩, fun p hp => by (cases hp; exact h2), fun h => by (cases h), h4, h5, fun p hp => by (cases hp; rfl)⟩
    have hi' : i < xs.length := by simp only [List.length_map] at hlen; omega
    have := hc g rfl i (.int .i64 (xs.getD i 0)) (by simp [hi'])
    rw [add_base] at this
    rw [Nat.zero_add]
    exact this
theorem rowIs_setCells {b : Nat} {t : TypeId} {n : Nat} : ∀ (vs : List Value) (o : Nat) (w : World) (f : Nat → Value), w.rowIs b t n f → (w.setCells b o vs).rowIs b t n (fun i => if o ≤ i ∧ i < o + vs.length then vs.getD (i - o) (f i) else f i)
  | [], o, w, f, h => h.congr (fun i _ => by rw [if_neg (by simp)])
  | v :: r, o, w, f, h => by
    have := rowIs_setCells r (o + 1) _ _ (World.rowIs.set h o v)
    refine World.rowIs.congr this (fun i _ => ?_)
    by_cases h1 : i = o
    · subst h1
      rw [if_neg (by omega), if_pos rfl, if_pos (by simp)]
      simp
    · by_cases h2 : o + 1 ≤ i ∧ i < o + 1 + r.length
      · have h3 : o ≤ i ∧ i < o + (v :: r).length := by simp only [List.length_cons]; omega
        simp only [if_pos h2, if_neg h1, if_pos h3]
        rw [show i - o = (i - (o + 1)) + 1 from by omega]
        rfl
      · rw [if_neg h2, if_neg h1, if_neg (by simp; omega)]
theorem Fr.setCells {S : Nat → Prop} {a : World} {g : Nat} (hg : S g) : ∀ (vs : List Value) (o : Nat) {w : World}, Fr S a w → Fr S a (w.setCells g o vs)
  | [], _, _, h => h
  | v :: r, o, _, h => Fr.setCells hg r (o + 1) (h.setCell (p := ⟨g, o, none⟩) (.inl hg) v)
theorem own_row {w : World} {base g : Nat} {e : TypeId} {size n cap : Nat} {xs : List Value} (h : w.ownsRow base e size (.slice (some ⟨g, 0, none⟩) n cap) n xs) :
    n ≤ cap ∧ cap ≤ maxLen ∧ base ≤ g ∧ ∃ f : Nat → Value, w.rowIs g e (cap * size) f ∧ ∀ k, k < n * size → xs[k]? = some (f k) := by
  rcases h.2 with ⟨h1, _⟩ | ⟨g', cap', cur, h1, h2, h3, h4, h5, h6, h7⟩
  · cases h1
  · cases h1
    refine ⟨h4, h5, h2, fun i => cur.getD i (.int .i64 0), ⟨cur, h3, h6, fun i hi => ?_⟩, fun k hk => ?_⟩
    · simp [Array.getD, h6, hi]
    · have hk2 : k < cur.size := by rw [h6]; exact Nat.lt_of_lt_of_le hk (Nat.mul_le_mul_right _ h4)
      rw [← h7, List.getElem?_take, if_pos hk]
      simp [Array.getD, hk2]
theorem row_own {w : World} {base g : Nat} {e : TypeId} {size n cap : Nat} {xs : List Value} {f : Nat → Value} (h : w.rowIs g e (cap * size) f) (hg : base ≤ g) (hn : n ≤ cap) (hc : cap ≤ maxLen) (hl : xs.length = n * size) (hx : ∀ k, k < n * size → xs[k]? = some (f k)) :
    w.ownsRow base e size (.slice (some ⟨g, 0, none⟩) n cap) n xs := by
  obtain ⟨cur, h3, h6, h7⟩ := h
  refine ⟨hl, .inr ⟨g, cap, cur, rfl, hg, h3, hn, hc, h6, ?_⟩⟩
  apply List.ext_getElem?
  intro k
  by_cases hk : k < n * size
  · rw [List.getElem?_take, if_pos hk, hx k hk]
    have := h7 k (Nat.lt_of_lt_of_le hk (Nat.mul_le_mul_right _ hn))
    simpa using this
  · rw [List.getElem?_eq_none (by simp; omega), List.getElem?_eq_none (by omega)]
theorem rowI_set {w : World} {b : Nat} {t : TypeId} {n : Nat} {f g : Nat → Int} (h : w.rowIs b t n (I f)) (i : Nat) (v : Int) (e : ∀ j, j < n → g j = if j = i then v else f j) : (w.setCell ⟨b, i, none⟩ (.int .i64 v)).rowIs b t n (I g) := by
  refine (World.rowIs.set h i (.int .i64 v)).congr ?_
  intro j hj
  unfold I
  rw [e j hj]
  split <;> rfl
/-- 'append(s, x..)', and where the row lies then. -/
theorem app_lies {P : Program} {ops : Array Oper} {rest : List Oper} {o : Oper} {a : Act} {w : World} {Q : Exit → Act → World → Prop} (hgd : o.guard = none) (s x : Operand) (t e : TypeId) (size bytes : Nat) (z : Value)
    (ho : o.op = .call { callee := .builtin .append, args := #[s, x], argTypes := #[t, t] })
    (ht : P.underlying t = some (.slice e)) (hinfo : (P.info? e).map (fun i => (i.zero, i.size, i.bytes)) = some (some z, size, bytes)) (hzs : z.cells.size = size) (hsz : 0 < size)
    (base : Nat) (v : Value) (n : Nat) (xs : List Value) (hs : a.eval s = v) (hown : w.ownsRow base e size v n xs)
    (ad : Addr) (m c : Nat) (news : List Value) (hx : a.eval x = .slice (some ad) m c) (hl : news.length = m * size) (hnews : ∀ j u, news[j]? = some u → w.cell? (ad.add j) = some u) (h1 : ∀ u ∈ news, u.oneCell' = true)
    (hm : 0 < m) (h63 : n + m ≤ 2147483648) (hb : bytes ≤ 4096) (hbase : base ≤ w.heap.size)
    (h : ∀ g cap w', w'.ownsRow base e size (.slice (some ⟨g, 0, none⟩) (n + m) cap) (n + m) (xs ++ news) → Fr (fun i => v.ownBlock = some i) w w' → (v.ownBlock = some g ∨ w.heap.size ≤ g) → wpList P ops Q rest (a.put o.dst (.slice (some ⟨g, 0, none⟩) (n + m) cap)) w') : wpList P ops Q (o :: rest) a w := by
  obtain ⟨i0, hi, hz0, hz1, hz2⟩ := info_parts hinfo
  refine wpList_plain hgd fun _ hK => wp_append_lies w s x t ho base e i0 z size bytes ht hi hz0 hz1 hz2 hzs hsz v n xs hs hown ad m c news hx hl hnews h1 hm (by unfold maxLen; omega) (Nat.le_trans (Nat.mul_le_mul h63 hb) (by omega)) hbase w.heap.size rfl fun g cap w' h2 h3 h4 _ => hK _ _ (h g cap w' h2 ((Fr.refl _ _).grown h3 (fun k hk => .inl hk)) (by rcases h4 with h4 | h4; exact .inl h4; exact .inr (by omega)))
theorem step_lies {P : Program} {ops : Array Oper} {o : Oper} {a : Act} {w : World} {K : Act → World → Prop} {Q : Exit → Act → World → Prop} {E : Prop} (hgd : o.guard = none) (s x : Operand) (t e : TypeId) (size bytes : Nat) (z : Value)
    (ho : o.op = .call { callee := .builtin .append, args := #[s, x], argTypes := #[t, t] })
    (ht : P.underlying t = some (.slice e)) (hinfo : (P.info? e).map (fun i => (i.zero, i.size, i.bytes)) = some (some z, size, bytes)) (hzs : z.cells.size = size) (hsz : 0 < size)
    (base : Nat) (v : Value) (n : Nat) (xs : List Value) (hs : a.eval s = v) (hown : w.ownsRow base e size v n xs)
    (ad : Addr) (m c : Nat) (news : List Value) (hx : a.eval x = .slice (some ad) m c) (hl : news.length = m * size) (hnews : ∀ j u, news[j]? = some u → w.cell? (ad.add j) = some u) (h1 : ∀ u ∈ news, u.oneCell' = true)
    (hm : 0 < m) (h63 : n + m ≤ 2147483648) (hb : bytes ≤ 4096) (hbase : base ≤ w.heap.size)
    (h : ∀ g cap w', w'.ownsRow base e size (.slice (some ⟨g, 0, none⟩) (n + m) cap) (n + m) (xs ++ news) → Fr (fun i => v.ownBlock = some i) w w' → (v.ownBlock = some g ∨ w.heap.size ≤ g) → K (a.put o.dst (.slice (some ⟨g, 0, none⟩) (n + m) cap)) w') :
    if Region.wanted o (yielded ops a.tmps) = true then Oper.wp P o a w K Q else E := by
  obtain ⟨i0, hi, hz0, hz1, hz2⟩ := info_parts hinfo
  exact step_append_lies w hgd s x t ho base e i0 z size bytes ht hi hz0 hz1 hz2 hzs hsz v n xs hs hown ad m c news hx hl hnews h1 hm (by unfold maxLen; omega) (Nat.le_trans (Nat.mul_le_mul h63 hb) (by omega)) hbase w.heap.size rfl fun g cap w' h2 h3 h4 _ => h g cap w' h2 ((Fr.refl _ _).grown h3 (fun k hk => .inl hk)) (by rcases h4 with h4 | h4; exact .inl h4; exact .inr (by omega))
theorem step_own {P : Program} {ops : Array Oper} {o : Oper} {a : Act} {w : World} {K : Act → World → Prop} {Q : Exit → Act → World → Prop} {E : Prop} (hgd : o.guard = none) (s x : Operand) (t e : TypeId) (size bytes : Nat) (z : Value)
    (ho : o.op = .call { callee := .builtin .append, args := #[s, x], argTypes := #[t, t] })
    (ht : P.underlying t = some (.slice e)) (hinfo : (P.info? e).map (fun i => (i.zero, i.size, i.bytes)) = some (some z, size, bytes)) (hzs : z.cells.size = size) (hsz : 0 < size)
    (base : Nat) (v : Value) (n : Nat) (xs : List Value) (hs : a.eval s = v) (hown : w.ownsRow base e size v n xs)
    (ad : Addr) (m c : Nat) (news : List Value) (hx : a.eval x = .slice (some ad) m c) (hl : news.length = m * size) (hnews : ∀ j u, news[j]? = some u → w.cell? (ad.add j) = some u) (h1 : ∀ u ∈ news, u.oneCell' = true)
    (h63 : n + m ≤ 2147483648) (hb : bytes ≤ 4096) (hbase : base ≤ w.heap.size)
    (h : ∀ v' w', w'.ownsRow base e size v' (n + m) (xs ++ news) → Fr (fun i => v.ownBlock = some i) w w' → K (a.put o.dst v') w') :
    if Region.wanted o (yielded ops a.tmps) = true then Oper.wp P o a w K Q else E := by
  have hw : Region.wanted o (yielded ops a.tmps) = true := by simp [Region.wanted, hgd]
  rw [if_pos hw]
  obtain ⟨i0, hi, hz0, hz1, hz2⟩ := info_parts hinfo
  exact wp_append_own w s x t ho base e i0 z size bytes ht hi hz0 hz1 hz2 hzs hsz v n xs hs hown ad m c news hx hl hnews h1 (by unfold maxLen; omega) (Nat.le_trans (Nat.mul_le_mul h63 hb) (by omega)) hbase fun v' w' h2 h3 _ => h v' w' h2 ((Fr.refl _ _).grown h3 (fun k hk => .inl hk))
def TrueFr (w : World) (e : Ending) (w' : World) : Prop := e = .returned (.bool true) ∧ Fr NoB w w'
theorem cell_fr' {S : Nat → Prop} {w w' : World} (hf : Fr S w w') {b o : Nat} {v : Value} (h : w.cell? ⟨b, o, none⟩ = some v) (hS : ¬ S b) : w'.cell? ⟨b, o, none⟩ = some v := by
  rw [World.cell?_of_block (w := w) (hf.block b (World.block_lt_of_cell? w _ h) hS)]
  exact h
end Go.Proofs.YteedndapbfihaaaGreat
