/- Words that all walks of this seat use: what a call may have turned (Fr), rows of integers, the endings of calls. -/
import Derived.Test.YtffoilacaffdgaaGreatDoorRows
import Derived.WalkKit
import Derived.WalkSpells
import Derived.WalkLawsBesides
import Derived.Deep.QuietTactic
import Derived.BigQuiet
import Derived.BigRegion
import Derived.Deep.OwnRows
import Derived.Deep.LoopGhost
import Derived.Deep.DeepCutAuto
import Derived.Lib.Hide
import Derived.StillTailTactics
import Derived.Deep.RegionHeld3
import Derived.Deep.RegionLaw
import Derived.Deep.AppendLies
import Derived.Lib.SliceRun
import Derived.Lib.Strings
import Derived.Lib.Repeat
import Derived.Laws.IdiomStrings
import Derived.Lib.ItoaMem
import Derived.Lib.LaidTab
set_option maxRecDepth 100000
set_option maxHeartbeats 8000000
namespace Go.Proofs.YtffoilacaffdgaaGreatDoor
open Go.RowKit Go.Deep
theorem zh {p : Prop} (h : p) : RowKit.Hid p := Lib.hid h
theorem gx {α : Type} : (∀ (l : List α) (i : Nat), l.toArray[i]? = l[i]?) ∧ (∀ (a : α) (l : List α) (i : Nat), (a :: l)[i + 1]? = l[i]?) ∧ ∀ (a : α) (l : List α), (a :: l)[0]? = some a :=
 ⟨fun _ _ => List.getElem?_toArray, fun _ _ _ => List.getElem?_cons_succ, fun _ _ => List.getElem?_cons_zero⟩
theorem px {α : Type} : (∀ (l : List α) (i : Nat) (a : α), l.toArray.setIfInBounds i a = (l.set i a).toArray) ∧ (∀ (a b : α) (l : List α), (a :: l).set 0 b = b :: l) ∧ ∀ (a b : α) (l : List α) (i : Nat), (a :: l).set (i + 1) b = a :: l.set i b :=
 ⟨List.setIfInBounds_toArray, fun _ _ _ => List.set_cons_zero, fun _ _ _ _ => List.set_cons_succ⟩
theorem tk {P : Program} {ops : Array Oper} {Q : Exit → Act → World → Prop} {md : Region.Mode} {S : World → Prop} (i : Nat) {oi : Oper} {v : Value} {fuel : Nat} {listed : Array Bool} {a : Act} {w : World} (hi : ops[i]? = some oi) (hS : S w) (hy : YieldsIf P ops S oi v a)
  (h : wpAnyH P md ops Q S fuel (listed.setIfInBounds i true) (a.put oi.dst v) w) (hQ : ∀ c a w, Q (.panic c) (a.put oi.dst v) w → Q (.panic c) a w := by exact fun _ _ _ h => h)
  (hs : Region.noSelect ops = true := by kernel_rfl) (hf : Region.free md ops listed i = true := by kernel_rfl) (hr : (Region.ready md ops listed).contains i = true := by kernel_rfl) : wpAnyH P md ops Q S (fuel + 1) listed a w := wpAnyH_take hi hs hf hr hQ hy hS h
theorem nB : ¬ False := fun h => h
abbrev rC := @World.rowIs.cell
abbrev rF := @World.rowIs.frozen
abbrev oL := @World.ownsRow.lt
abbrev oA := @World.ownsRow.alloc
end Go.Proofs.YtffoilacaffdgaaGreatDoor
namespace Go.Proofs.YtffoilacaffdgaaGreatDoor
open Go.RowKit Go.Deep
structure Fr (S : Nat → Prop) (w w' : World) : Prop where
 os : w'.os = w.os
 tape : w'.tape = w.tape
 output : w'.output = w.output
 size : w.heap.size ≤ w'.heap.size
 block : ∀ k, k < w.heap.size → ¬ S k → w'.heap[k]? = w.heap[k]?
def NoB : Nat → Prop := fun _ => False
def OneB (b : Nat) : Nat → Prop := fun k => k = b
theorem Fr.refl (S : Nat → Prop) (w : World) : Fr S w w := ⟨rfl, rfl, rfl, Nat.le_refl _, fun _ _ _ => rfl⟩
theorem Fr.trans {S : Nat → Prop} {a b c : World} (h : Fr S a b) (k : Fr S b c) : Fr S a c :=
 ⟨k.os.trans h.os, k.tape.trans h.tape, k.output.trans h.output, Nat.le_trans h.size k.size,
  fun i hi hs => (k.block i (Nat.lt_of_lt_of_le hi h.size) hs).trans (h.block i hi hs)⟩
theorem Fr.trans' {S T : Nat → Prop} {a b c : World} (h : Fr S a b) (k : Fr T b c) (hT : ∀ i, i < a.heap.size → T i → S i) : Fr S a c :=
 ⟨k.os.trans h.os, k.tape.trans h.tape, k.output.trans h.output, Nat.le_trans h.size k.size,
  fun i hi hs => (k.block i (Nat.lt_of_lt_of_le hi h.size) (fun ht => hs (hT i hi ht))).trans (h.block i hi hs)⟩
theorem Fr.mono {S T : Nat → Prop} {w w' : World} (h : Fr S w w') (hT : ∀ i, i < w.heap.size → S i → T i) : Fr T w w' :=
 ⟨h.os, h.tape, h.output, h.size, fun i hi hs => h.block i hi (fun hi' => hs (hT i hi hi'))⟩
theorem Fr.drew {S : Nat → Prop} {a w : World} (h : Fr S a w) : Fr S a w.drew := ⟨h.os, h.tape, h.output, h.size, h.block⟩
theorem Fr.drewN {S : Nat → Prop} {a w : World} (h : Fr S a w) (n : Nat) : Fr S a (w.drewN n) := ⟨h.os, h.tape, h.output, h.size, h.block⟩
theorem Fr.alloc {S : Nat → Prop} {a w : World} (h : Fr S a w) (o : Obj) : Fr S a (w.alloc o) :=
 ⟨h.os, h.tape, h.output, Nat.le_trans h.size (by simp), fun i hi hs => (Below.heap_alloc w o i (Nat.lt_of_lt_of_le hi h.size)).trans (h.block i hi hs)⟩
theorem Fr.setCell {S : Nat → Prop} {a w : World} (h : Fr S a w) {p : Addr} (hp : S p.block ∨ a.heap.size ≤ p.block) (u : Value) : Fr S a (w.setCell p u) :=
 ⟨h.os, h.tape, h.output, by simpa [World.setCell] using h.size, fun i hi hs => (Below.heap_setCell w p u i (by
  rintro rfl
  rcases hp with hp | hp
  ·exact hs hp
  omega)).trans (h.block i hi hs)⟩
theorem Fr.set1 {b : Nat} {a w : World} (h : Fr (OneB b) a w) (o : Nat) (u : Value) : Fr (OneB b) a (w.setCell ⟨b, o, none⟩ u) := h.setCell (p := ⟨b, o, none⟩) (.inl rfl) u
theorem Fr.setNew {S : Nat → Prop} {a w : World} (h : Fr S a w) {b : Nat} (hb : a.heap.size ≤ b) (o : Nat) (u : Value) : Fr S a (w.setCell ⟨b, o, none⟩ u) := h.setCell (p := ⟨b, o, none⟩) (.inr hb) u
theorem Fr.grown {S : Nat → Prop} {a w w' : World} {row : Option Nat} (h : Fr S a w) (hg : w.grownBy w' row) (hr : ∀ k, row = some k → S k ∨ a.heap.size ≤ k) : Fr S a w' :=
 ⟨hg.os.trans h.os, hg.tape.trans h.tape, hg.output.trans h.output, Nat.le_trans h.size hg.size, fun k hk hs => (hg.block k (Nat.lt_of_lt_of_le hk h.size) (fun e => by
  rcases hr k e.symm with h1 | h1
  ·exact hs h1
  omega)).trans (h.block k hk hs)⟩
theorem Fr.own {S : Nat → Prop} {a w w' : World} (h : Fr S a w) (k : Fr (fun i => a.heap.size ≤ i) w w') : Fr S a w' :=
 h.trans' k (fun i hi hi' => by omega)
theorem Fr.below {w w' : World} (h : Fr NoB w w') : Below w.heap.size w w' := ⟨h.os, h.tape, h.output, h.size, fun k hk => h.block k hk (fun h => h)⟩
theorem Fr.of_below {S : Nat → Prop} {w w' : World} (h : Below w.heap.size w w') : Fr S w w' := ⟨h.os, h.tape, h.output, h.size, fun k hk _ => h.block k hk⟩
theorem Fr.row {S : Nat → Prop} {w w' : World} (h : Fr S w w') {b : Nat} {t : TypeId} {n : Nat} {f : Nat → Value} (hr : w.rowIs b t n f) (hb : ¬ S b) : w'.rowIs b t n f :=
 hr.of_block (h.block b hr.lt hb)
theorem rowIs_new (w : World) (n : Nat) (v : Value) (t : TypeId) : (w.alloc (.cells (Array.replicate n v) t)).rowIs w.heap.size t n (fun _ => v) := by
 have h := World.rowIs_alloc w (Array.replicate n v) t (fun _ => v) (by intro i hi; simp at hi; simp [hi])
 simpa using h
def Sl (w : World) (base : Nat) (v : Value) (xs : List Int) : Prop := w.ownsRow base 3 1 v xs.length (xs.map (Value.int .i64))
theorem Sl.nil (w : World) (base : Nat) : Sl w base (.slice none 0 0) [] := World.ownsRow_nil _ _ _ _
theorem add_base (g i : Nat) : (⟨g, 0, none⟩ : Addr).add i = ⟨g, i, none⟩ := by
 unfold Addr.add
 split
 ·rename_i h; rw [h]
 simp
theorem Sl.shape {w : World} {base : Nat} {v : Value} {xs : List Int} (h : Sl w base v xs) : (v = .slice none 0 0 ∧ xs = []) ∨
  ∃ g cap, v = .slice (some ⟨g, 0, none⟩) xs.length cap ∧ base ≤ g ∧ g < w.heap.size ∧ ∀ i, i < xs.length → w.cell? ⟨g, i, none⟩ = some (.int .i64 (xs.getD i 0)) := by
 have hlt := oL h
 have hc := fun g => World.ownsRow.cells (g := g) h
 rcases h.2 with ⟨h1, h2⟩ | ⟨g, cap, cur, h1, h2, _⟩
 ·exact .inl ⟨h1, List.eq_nil_of_length_eq_zero h2⟩
 refine .inr ⟨g, cap, h1, h2, (hlt g (by rw [h1]; rfl)).2, fun i hi => ?_⟩
 have := hc g (by rw [h1]; rfl) i (.int .i64 (xs.getD i 0)) (by simp [hi])
 rw [add_base] at this
 exact this
theorem Fr.ownB {S : Nat → Prop} {a w w' : World} {v : Value} {base : Nat} {e : TypeId} {size n : Nat} {xs : List Value} (h : Fr S a w) (hown : w.ownsRow base e size v n xs) (hb : a.heap.size ≤ base) (k : Fr (fun i => v.ownBlock = some i) w w') : Fr S a w' :=
 h.trans' k (fun i hi hi' => by have := (oL hown i hi').1; omega)
theorem own_keep {S : Nat → Prop} {w w' : World} {base : Nat} {e : TypeId} {size : Nat} {v : Value} {n : Nat} {xs : List Value} (h : w.ownsRow base e size v n xs) (hf : Fr S w w') (hS : ∀ g, v.ownBlock = some g → ¬ S g) : w'.ownsRow base e size v n xs := by
 refine ⟨h.1, ?_⟩
 rcases h.2 with hn | ⟨g, cap, cur, h1, h2, h3, h4⟩
 ·exact .inl hn
 have hlt : g < w.heap.size := (oL h g (by rw [h1]; rfl)).2
 exact .inr ⟨g, cap, cur, h1, h2, (hf.block g hlt (hS g (by rw [h1]; rfl))).trans h3, h4⟩
theorem own_apart {w : World} {b1 b2 : Nat} {e1 e2 : TypeId} {s1 s2 : Nat} {v1 v2 : Value} {n1 n2 : Nat} {x1 x2 : List Value} (h1 : w.ownsRow b1 e1 s1 v1 n1 x1) (h2 : w.ownsRow b2 e2 s2 v2 n2 x2) (he : e1 ≠ e2) : ∀ g, v1.ownBlock = some g → ¬ v2.ownBlock = some g := by
 intro g hg1 hg2
 rcases h1.2 with ⟨rfl, _⟩ | ⟨g1, c1, u1, rfl, _, k1, _⟩
 ·cases hg1
 rcases h2.2 with ⟨rfl, _⟩ | ⟨g2, c2, u2, rfl, _, k2, _⟩
 ·cases hg2
 cases hg1; cases hg2
 rw [k1] at k2
 simp only [Option.some.injEq, Obj.cells.injEq] at k2
 exact he k2.2.1
theorem app_own {P : Program} {ops : Array Oper} {rest : List Oper} {o : Oper} {a : Act} {w : World} {Q : Exit → Act → World → Prop} (hgd : o.guard = none) (s x : Operand) (t e : TypeId) (size bytes : Nat) (z : Value)
  (ho : o.op = .call { callee := .builtin .append, args := #[s, x], argTypes := #[t, t] })
  (ht : P.underlying t = some (.slice e)) (hinfo : (P.info? e).map (fun i => (i.zero, i.size, i.bytes)) = some (some z, size, bytes)) (hzs : z.cells.size = size) (hsz : 0 < size)
  (base : Nat) (v : Value) (n : Nat) (xs : List Value) (hs : a.eval s = v) (hown : w.ownsRow base e size v n xs)
  (ad : Addr) (m c : Nat) (news : List Value) (hx : a.eval x = .slice (some ad) m c) (hl : news.length = m * size) (hnews : ∀ j u, news[j]? = some u → w.cell? (ad.add j) = some u) (h1 : ∀ u ∈ news, u.oneCell' = true)
  (h63 : n + m ≤ 2147483648) (hb : bytes ≤ 4096) (hbase : base ≤ w.heap.size)
  (h : ∀ v' w', w'.ownsRow base e size v' (n + m) (xs ++ news) → Fr (fun i => v.ownBlock = some i) w w' → wpList P ops Q rest (a.put o.dst v') w') : wpList P ops Q (o :: rest) a w := by
 obtain ⟨i0, hi, hz0, hz1, hz2⟩ := info_parts hinfo
 refine wpList_append_own w hgd s x t ho base e i0 z size bytes ht hi hz0 hz1 hz2 hzs hsz v n xs hs hown ad m c news hx hl hnews h1 (by unfold maxLen; omega) ?_ hbase ?_
 ·exact Nat.le_trans (Nat.mul_le_mul h63 hb) (by omega)
 intro v' w' h2 h3 _
 exact h v' w' h2 ((Fr.refl _ _).grown h3 (fun k hk => .inl hk))
theorem app_int {P : Program} {ops : Array Oper} {rest : List Oper} {o : Oper} {a : Act} {w : World} {Q : Exit → Act → World → Prop} (hgd : o.guard = none) (s x : Operand) (t : TypeId)
  (ho : o.op = .call { callee := .builtin .append, args := #[s, x], argTypes := #[t, t] })
  (ht : P.underlying t = some (.slice 3)) (hinfo : (P.info? 3).map (fun i => (i.zero, i.size, i.bytes)) = some (some (.int .i64 0), 1, 8))
  (base : Nat) (v : Value) (xs : List Int) (hs : a.eval s = v) (hown : Sl w base v xs)
  (ad : Addr) (y : Int) (hx : a.eval x = .slice (some ad) 1 1) (hy : w.cell? ad = some (.int .i64 y))
  (h63 : xs.length < 2147483648) (hbase : base ≤ w.heap.size)
  (h : ∀ v' w', Sl w' base v' (xs ++ [y]) → Fr (fun i => base ≤ i) w w' → wpList P ops Q rest (a.put o.dst v') w') : wpList P ops Q (o :: rest) a w := by
 refine app_own hgd s x t 3 1 8 (.int .i64 0) ho ht hinfo rfl (by omega) base v xs.length (xs.map (Value.int .i64)) hs hown ad 1 1 [.int .i64 y] hx rfl ?_ ?_ (by omega) (by omega) hbase ?_
 ·intro j u hj
  match j, hj with
  | 0, hj => simp at hj; subst hj; simpa [Addr.add] using hy
 ·intro u hu; simp at hu; subst hu; rfl
 intro v' w' h2 h3
 refine h v' w' ?_ (h3.mono (fun i _ hi => (oL hown i hi).1))
 unfold Sl
 simpa using h2
theorem Sl.alloc {w : World} {base : Nat} {v : Value} {xs : List Int} (h : Sl w base v xs) (o : Obj) : Sl (w.alloc o) base v xs := oA h o
def I (f : Nat → Int) : Nat → Value := fun i => .int .i64 (f i)
theorem rowI_cell {w : World} {b : Nat} {t : TypeId} {n : Nat} {f : Nat → Int} (h : w.rowIs b t n (I f)) {i : Nat} (hi : i < n) : w.cell? ⟨b, i, none⟩ = some (.int .i64 (f i)) := h.cell hi
def Rd (w : World) (a : Option Addr) (n : Nat) (X : Nat → Int) : Prop := ∀ k, k < n → ∃ b off, a = some ⟨b, off, none⟩ ∧ w.cell? ⟨b, off + k, none⟩ = some (.int .i64 (X k))
theorem still_tail {P : Program} {id : Nat} {Q : Exit → Act → World → Prop} {a : Act} {w : World} {l : List Oper} (n : Nat) (hm : P.follows .mixedOrders = true) (hB : Region.lexTailB .any l.toArray n = true)
  (h : wpStill P l.toArray w.drew (fun a' => wpList P l.toArray Q (l.drop n) a' w.drew) (l.take n) a) : (Code.region id l.toArray true).wp P Q a w :=
 wp_region_still_tail n hm hB h
theorem wp_name {P : Program} {c : Code} {Q : Exit → Act → World → Prop} {a : Act} {W : World} (h : ∀ w1, w1 = W → c.wp P Q a w1) : c.wp P Q a W := h W rfl
theorem ret_bool {a b : Bool} (h : a = b) : Ending.returned (.bool a) = .returned (.bool b) := by rw [h]
theorem ret_int {k : IntKind} {a b : Int} (h : a = b) : Ending.returned (.int k a) = .returned (.int k b) := by rw [h]
def BoolFr (r : Bool) (w : World) (e : Ending) (w' : World) : Prop := e = .returned (.bool r) ∧ Fr NoB w w'
theorem Fr.one {b : Nat} {w w' : World} (h : Fr NoB w w') : Fr (OneB b) w w' := h.mono (fun _ _ h => h.elim)
theorem Rd.row {w : World} {g : Nat} {t : TypeId} {n : Nat} {f : Nat → Int} (h : w.rowIs g t n (I f)) : Rd w (some ⟨g, 0, none⟩) n f := fun k hk => ⟨g, 0, rfl, by rw [Nat.zero_add]; exact rowI_cell h hk⟩
theorem Rd.keep {S : Nat → Prop} {w w' : World} {a : Option Addr} {n : Nat} {X : Nat → Int} (h : Rd w a n X) (hf : Fr S w w') (hS : ∀ p, a = some p → ¬ S p.block) : Rd w' a n X := by
 intro k hk
 obtain ⟨b, off, h1, h2⟩ := h k hk
 refine ⟨b, off, h1, ?_⟩
 rw [World.cell?_of_block (w := w) (hf.block b (World.block_lt_of_cell? w _ h2) (hS ⟨b, off, none⟩ h1))]
 exact h2
theorem cell_fr {S : Nat → Prop} {w w' : World} (h : Fr S w w') {a : Addr} {v : Value} (hc : w.cell? a = some v) (hS : ¬ S a.block) : w'.cell? a = some v := by
 rw [World.cell?_of_block (w := w) (h.block a.block (World.block_lt_of_cell? w a hc) hS)]
 exact hc
theorem ownsRow_rd {w : World} {base : Nat} {e : TypeId} {size : Nat} {v : Value} {n : Nat} {xs : List Int} (h : w.ownsRow base e size v n (xs.map (Value.int .i64))) :
  ∃ a cap, v = .slice a n cap ∧ Rd w a (n * size) (fun i => xs.getD i 0) ∧ (∀ p, a = some p → base ≤ p.block) ∧ (a = none → cap = 0) ∧ n ≤ cap ∧ cap ≤ maxLen ∧ ∀ p, a = some p → p = ⟨p.block, 0, none⟩ := by
 have hlen := h.1
 have hc := fun g => World.ownsRow.cells (g := g) h
 rcases h.2 with ⟨rfl, rfl⟩ | ⟨g, cap, cur, rfl, h2, h3, h4, h5, _⟩
 ·exact ⟨none, 0, rfl, fun k hk => absurd hk (by omega), fun p hp => by (cases hp), fun _ => rfl, Nat.le_refl _, by unfold maxLen; omega, fun p hp => by (cases hp)⟩
 refine ⟨some ⟨g, 0, none⟩, cap, rfl, fun i hi => ⟨g, 0, rfl, ?_⟩, fun p hp => by (cases hp; exact h2), fun h => by (cases h), h4, h5, fun p hp => by (cases hp; rfl)⟩
 have hi' : i < xs.length := by simp only [List.length_map] at hlen; omega
 have := hc g rfl i (.int .i64 (xs.getD i 0)) (by simp [hi'])
 rw [add_base] at this
 rw [Nat.zero_add]
 exact this
theorem rowIs_setCells {b : Nat} {t : TypeId} {n : Nat} : ∀ (vs : List Value) (o : Nat) (w : World) (f : Nat → Value), w.rowIs b t n f → (w.setCells b o vs).rowIs b t n (fun i => if o ≤ i ∧ i < o + vs.length then vs.getD (i - o) (f i) else f i)
 | [], o, w, f, h => h.congr (fun i _ => by rw [if_neg (by simp)])
 | v :: r, o, w, f, h => by
  have := rowIs_setCells r (o + 1) _ _ (World.rowIs.set h o v)
  refine World.rowIs.congr this (fun i _ => ?_)
  by_cases h1 : i = o
  ·subst h1;rw [if_neg (by omega), if_pos rfl, if_pos (by simp)]
   simp
  by_cases h2 : o + 1 ≤ i ∧ i < o + 1 + r.length
  ·have h3 : o ≤ i ∧ i < o + (v :: r).length := by simp only [List.length_cons]; omega
   simp only [if_pos h2, if_neg h1, if_pos h3]
   rw [show i - o = (i - (o + 1)) + 1 from by omega];rfl
  rw [if_neg h2, if_neg h1, if_neg (by simp; omega)]
theorem Fr.setCells {S : Nat → Prop} {a : World} {g : Nat} (hg : S g) : ∀ (vs : List Value) (o : Nat) {w : World}, Fr S a w → Fr S a (w.setCells g o vs)
 | [], _, _, h => h
 | v :: r, o, _, h => Fr.setCells hg r (o + 1) (h.setCell (p := ⟨g, o, none⟩) (.inl hg) v)
theorem own_row {w : World} {base g : Nat} {e : TypeId} {size n cap : Nat} {xs : List Value} (h : w.ownsRow base e size (.slice (some ⟨g, 0, none⟩) n cap) n xs) :
  n ≤ cap ∧ cap ≤ maxLen ∧ base ≤ g ∧ ∃ f : Nat → Value, w.rowIs g e (cap * size) f ∧ ∀ k, k < n * size → xs[k]? = some (f k) := by
 rcases h.2 with ⟨h1, _⟩ | ⟨g', cap', cur, h1, h2, h3, h4, h5, h6, h7⟩
 ·cases h1
 cases h1
 refine ⟨h4, h5, h2, fun i => cur.getD i (.int .i64 0), ⟨cur, h3, h6, fun i hi => ?_⟩, fun k hk => ?_⟩
 ·simp [Array.getD, h6, hi]
 have hk2 : k < cur.size := by rw [h6]; exact Nat.lt_of_lt_of_le hk (Nat.mul_le_mul_right _ h4)
 rw [← h7, List.getElem?_take, if_pos hk]
 simp [Array.getD, hk2]
theorem row_own {w : World} {base g : Nat} {e : TypeId} {size n cap : Nat} {xs : List Value} {f : Nat → Value} (h : w.rowIs g e (cap * size) f) (hg : base ≤ g) (hn : n ≤ cap) (hc : cap ≤ maxLen) (hl : xs.length = n * size) (hx : ∀ k, k < n * size → xs[k]? = some (f k)) :
  w.ownsRow base e size (.slice (some ⟨g, 0, none⟩) n cap) n xs := by
 obtain ⟨cur, h3, h6, h7⟩ := h
 refine ⟨hl, .inr ⟨g, cap, cur, rfl, hg, h3, hn, hc, h6, ?_⟩⟩
 apply List.ext_getElem?
 intro k
 by_cases hk : k < n * size
 ·rw [List.getElem?_take, if_pos hk, hx k hk];have := h7 k (Nat.lt_of_lt_of_le hk (Nat.mul_le_mul_right _ hn))
  simpa using this
 rw [List.getElem?_eq_none (by simp; omega), List.getElem?_eq_none (by omega)]
theorem rowI_set {w : World} {b : Nat} {t : TypeId} {n : Nat} {f g : Nat → Int} (h : w.rowIs b t n (I f)) (i : Nat) (v : Int) (e : ∀ j, j < n → g j = if j = i then v else f j) : (w.setCell ⟨b, i, none⟩ (.int .i64 v)).rowIs b t n (I g) := by
 refine (World.rowIs.set h i (.int .i64 v)).congr ?_
 intro j hj
 unfold I
 rw [e j hj]
 split <;> rfl
theorem app_lies {P : Program} {ops : Array Oper} {rest : List Oper} {o : Oper} {a : Act} {w : World} {Q : Exit → Act → World → Prop} (hgd : o.guard = none) (s x : Operand) (t e : TypeId) (size bytes : Nat) (z : Value)
  (ho : o.op = .call { callee := .builtin .append, args := #[s, x], argTypes := #[t, t] })
  (ht : P.underlying t = some (.slice e)) (hinfo : (P.info? e).map (fun i => (i.zero, i.size, i.bytes)) = some (some z, size, bytes)) (hzs : z.cells.size = size) (hsz : 0 < size)
  (base : Nat) (v : Value) (n : Nat) (xs : List Value) (hs : a.eval s = v) (hown : w.ownsRow base e size v n xs)
  (ad : Addr) (m c : Nat) (news : List Value) (hx : a.eval x = .slice (some ad) m c) (hl : news.length = m * size) (hnews : ∀ j u, news[j]? = some u → w.cell? (ad.add j) = some u) (h1 : ∀ u ∈ news, u.oneCell' = true)
  (hm : 0 < m) (h63 : n + m ≤ 2147483648) (hb : bytes ≤ 4096) (hbase : base ≤ w.heap.size)
  (h : ∀ g cap w', w'.ownsRow base e size (.slice (some ⟨g, 0, none⟩) (n + m) cap) (n + m) (xs ++ news) → Fr (fun i => v.ownBlock = some i) w w' → (v.ownBlock = some g ∨ w.heap.size ≤ g) → wpList P ops Q rest (a.put o.dst (.slice (some ⟨g, 0, none⟩) (n + m) cap)) w') : wpList P ops Q (o :: rest) a w := by
 obtain ⟨i0, hi, hz0, hz1, hz2⟩ := info_parts hinfo
 refine wpList_plain hgd fun _ hK => wp_append_lies w s x t ho base e i0 z size bytes ht hi hz0 hz1 hz2 hzs hsz v n xs hs hown ad m c news hx hl hnews h1 hm (by unfold maxLen; omega) (Nat.le_trans (Nat.mul_le_mul h63 hb) (by omega)) hbase w.heap.size rfl fun g cap w' h2 h3 h4 _ => hK _ _ (h g cap w' h2 ((Fr.refl _ _).grown h3 (fun k hk => .inl hk)) (by rcases h4 with h4 | h4; exact .inl h4; exact .inr (by omega)))
theorem step_lies {P : Program} {ops : Array Oper} {o : Oper} {a : Act} {w : World} {K : Act → World → Prop} {Q : Exit → Act → World → Prop} {E : Prop} (hgd : o.guard = none) (s x : Operand) (t e : TypeId) (size bytes : Nat) (z : Value)
  (ho : o.op = .call { callee := .builtin .append, args := #[s, x], argTypes := #[t, t] })
  (ht : P.underlying t = some (.slice e)) (hinfo : (P.info? e).map (fun i => (i.zero, i.size, i.bytes)) = some (some z, size, bytes)) (hzs : z.cells.size = size) (hsz : 0 < size)
  (base : Nat) (v : Value) (n : Nat) (xs : List Value) (hs : a.eval s = v) (hown : w.ownsRow base e size v n xs)
  (ad : Addr) (m c : Nat) (news : List Value) (hx : a.eval x = .slice (some ad) m c) (hl : news.length = m * size) (hnews : ∀ j u, news[j]? = some u → w.cell? (ad.add j) = some u) (h1 : ∀ u ∈ news, u.oneCell' = true)
  (hm : 0 < m) (h63 : n + m ≤ 2147483648) (hb : bytes ≤ 4096) (hbase : base ≤ w.heap.size)
  (h : ∀ g cap w', w'.ownsRow base e size (.slice (some ⟨g, 0, none⟩) (n + m) cap) (n + m) (xs ++ news) → Fr (fun i => v.ownBlock = some i) w w' → (v.ownBlock = some g ∨ w.heap.size ≤ g) → K (a.put o.dst (.slice (some ⟨g, 0, none⟩) (n + m) cap)) w') :
  if Region.wanted o (yielded ops a.tmps) = true then Oper.wp P o a w K Q else E := by
 obtain ⟨i0, hi, hz0, hz1, hz2⟩ := info_parts hinfo
 exact step_append_lies w hgd s x t ho base e i0 z size bytes ht hi hz0 hz1 hz2 hzs hsz v n xs hs hown ad m c news hx hl hnews h1 hm (by unfold maxLen; omega) (Nat.le_trans (Nat.mul_le_mul h63 hb) (by omega)) hbase w.heap.size rfl fun g cap w' h2 h3 h4 _ => h g cap w' h2 ((Fr.refl _ _).grown h3 (fun k hk => .inl hk)) (by rcases h4 with h4 | h4; exact .inl h4; exact .inr (by omega))
theorem step_own {P : Program} {ops : Array Oper} {o : Oper} {a : Act} {w : World} {K : Act → World → Prop} {Q : Exit → Act → World → Prop} {E : Prop} (hgd : o.guard = none) (s x : Operand) (t e : TypeId) (size bytes : Nat) (z : Value)
  (ho : o.op = .call { callee := .builtin .append, args := #[s, x], argTypes := #[t, t] })
  (ht : P.underlying t = some (.slice e)) (hinfo : (P.info? e).map (fun i => (i.zero, i.size, i.bytes)) = some (some z, size, bytes)) (hzs : z.cells.size = size) (hsz : 0 < size)
  (base : Nat) (v : Value) (n : Nat) (xs : List Value) (hs : a.eval s = v) (hown : w.ownsRow base e size v n xs)
  (ad : Addr) (m c : Nat) (news : List Value) (hx : a.eval x = .slice (some ad) m c) (hl : news.length = m * size) (hnews : ∀ j u, news[j]? = some u → w.cell? (ad.add j) = some u) (h1 : ∀ u ∈ news, u.oneCell' = true)
  (h63 : n + m ≤ 2147483648) (hb : bytes ≤ 4096) (hbase : base ≤ w.heap.size)
  (h : ∀ v' w', w'.ownsRow base e size v' (n + m) (xs ++ news) → Fr (fun i => v.ownBlock = some i) w w' → K (a.put o.dst v') w') :
  if Region.wanted o (yielded ops a.tmps) = true then Oper.wp P o a w K Q else E := by
 have hw : Region.wanted o (yielded ops a.tmps) = true := by simp [Region.wanted, hgd]
 rw [if_pos hw]
 obtain ⟨i0, hi, hz0, hz1, hz2⟩ := info_parts hinfo
 exact wp_append_own w s x t ho base e i0 z size bytes ht hi hz0 hz1 hz2 hzs hsz v n xs hs hown ad m c news hx hl hnews h1 (by unfold maxLen; omega) (Nat.le_trans (Nat.mul_le_mul h63 hb) (by omega)) hbase fun v' w' h2 h3 _ => h v' w' h2 ((Fr.refl _ _).grown h3 (fun k hk => .inl hk))
def TrueFr (w : World) (e : Ending) (w' : World) : Prop := e = .returned (.bool true) ∧ Fr NoB w w'
theorem cell_fr' {S : Nat → Prop} {w w' : World} (hf : Fr S w w') {b o : Nat} {v : Value} (h : w.cell? ⟨b, o, none⟩ = some v) (hS : ¬ S b) : w'.cell? ⟨b, o, none⟩ = some v := by
 rw [World.cell?_of_block (w := w) (hf.block b (World.block_lt_of_cell? w _ h) hS)]
 exact h
end Go.Proofs.YtffoilacaffdgaaGreatDoor
namespace Go.Proofs.YtffoilacaffdgaaGreatDoor.Tb
structure Pf where
 len : Int
 bits : Int
theorem pf_eq {p q : Pf} (h1 : p.len = q.len) (h2 : p.bits = q.bits) : p = q := by cases p; cases q; simp_all
instance : DecidableEq Pf := fun p q => decidable_of_iff (p.len = q.len ∧ p.bits = q.bits) ⟨fun h => pf_eq h.1 h.2, fun h => by rw [h]; exact ⟨rfl, rfl⟩⟩
structure Rt where
 p : Pf
 hop : Int
instance : DecidableEq Rt := fun r s => decidable_of_iff (r.p = s.p ∧ r.hop = s.hop) ⟨fun h => by cases r; cases s; simp_all, fun h => by rw [h]; exact ⟨rfl, rfl⟩⟩
instance : Inhabited Rt := ⟨⟨⟨0, 0⟩, 0⟩⟩
def ok (p : Pf) : Prop := 0 ≤ p.len ∧ p.len ≤ 8 ∧ 0 ≤ p.bits ∧ p.bits < 2 ^ p.len.toNat
instance (p : Pf) : Decidable (ok p) := by unfold ok; infer_instance
def hopOK (h : Int) : Prop := -1 ≤ h ∧ h < 6
instance (h : Int) : Decidable (hopOK h) := by unfold hopOK; infer_instance
def span (p : Pf) : Int := 2 ^ (8 - p.len).toNat
def fst (p : Pf) : Int := if ok p then p.bits * span p else -1
def lst (p : Pf) : Int := if ok p then p.bits * span p + span p - 1 else -1
def has (p : Pf) (a : Int) : Prop := ok p ∧ fst p ≤ a ∧ a ≤ lst p
instance (p : Pf) (a : Int) : Decidable (has p a) := by unfold has; infer_instance
def less (p q : Pf) : Prop := fst p < fst q ∨ (fst p = fst q ∧ p.len < q.len)
instance (p q : Pf) : Decidable (less p q) := by unfold less; infer_instance
theorem ok_cases {p : Pf} (h : ok p) : (p.len = 0 ∧ span p = 256 ∧ p.bits < 1) ∨ (p.len = 1 ∧ span p = 128 ∧ p.bits < 2) ∨ (p.len = 2 ∧ span p = 64 ∧ p.bits < 4) ∨ (p.len = 3 ∧ span p = 32 ∧ p.bits < 8) ∨
  (p.len = 4 ∧ span p = 16 ∧ p.bits < 16) ∨ (p.len = 5 ∧ span p = 8 ∧ p.bits < 32) ∨ (p.len = 6 ∧ span p = 4 ∧ p.bits < 64) ∨ (p.len = 7 ∧ span p = 2 ∧ p.bits < 128) ∨ (p.len = 8 ∧ span p = 1 ∧ p.bits < 256) := by
 obtain ⟨l, b⟩ := p
 obtain ⟨h1, h2, h3, h4⟩ := h
 unfold span
 dsimp only at h1 h2 h3 h4 ⊢
 have : l = 0 ∨ l = 1 ∨ l = 2 ∨ l = 3 ∨ l = 4 ∨ l = 5 ∨ l = 6 ∨ l = 7 ∨ l = 8 := by omega
 rcases this with rfl | rfl | rfl | rfl | rfl | rfl | rfl | rfl | rfl
 ·exact .inl ⟨rfl, rfl, h4⟩
 ·exact .inr (.inl ⟨rfl, rfl, h4⟩)
 ·exact .inr (.inr (.inl ⟨rfl, rfl, h4⟩))
 ·exact .inr (.inr (.inr (.inl ⟨rfl, rfl, h4⟩)))
 ·exact .inr (.inr (.inr (.inr (.inl ⟨rfl, rfl, h4⟩))))
 ·exact .inr (.inr (.inr (.inr (.inr (.inl ⟨rfl, rfl, h4⟩)))))
 ·exact .inr (.inr (.inr (.inr (.inr (.inr (.inl ⟨rfl, rfl, h4⟩))))))
 ·exact .inr (.inr (.inr (.inr (.inr (.inr (.inr (.inl ⟨rfl, rfl, h4⟩)))))))
 exact .inr (.inr (.inr (.inr (.inr (.inr (.inr (.inr ⟨rfl, rfl, h4⟩)))))))
theorem fst_ok {p : Pf} (h : ok p) : fst p = p.bits * span p := by unfold fst; rw [if_pos h]
theorem lst_ok {p : Pf} (h : ok p) : lst p = p.bits * span p + span p - 1 := by unfold lst; rw [if_pos h]
theorem fst_no {p : Pf} (h : ¬ ok p) : fst p = -1 := by unfold fst; rw [if_neg h]
theorem lst_no {p : Pf} (h : ¬ ok p) : lst p = -1 := by unfold lst; rw [if_neg h]
theorem fst_ge {p : Pf} (h : ok p) : 0 ≤ fst p := by
 rw [fst_ok h]
 have h3 := h.2.2.1
 rcases ok_cases h with h | h | h | h | h | h | h | h | h <;> (obtain ⟨_, e, _⟩ := h; rw [e]; omega)
theorem fst_le {p : Pf} (h : ok p) : fst p ≤ lst p ∧ lst p < 256 := by
 rw [fst_ok h, lst_ok h]
 have h3 := h.2.2.1
 rcases ok_cases h with h | h | h | h | h | h | h | h | h <;> (obtain ⟨_, e, _⟩ := h; rw [e]; omega)
theorem has_range {p : Pf} {a : Int} (h : has p a) : 0 ≤ a ∧ a < 256 := by
 have := fst_ge h.1; have := fst_le h.1; have := h.2; omega
theorem has_div {p : Pf} {a : Int} (h : ok p) : has p a ↔ a / span p = p.bits := by
 unfold has
 rw [fst_ok h, lst_ok h]
 have h3 := h.2.2.1
 have : (p.bits * span p ≤ a ∧ a ≤ p.bits * span p + span p - 1) ↔ a / span p = p.bits := by
  rcases ok_cases h with h | h | h | h | h | h | h | h | h <;> (obtain ⟨_, e, _⟩ := h; rw [e]; omega)
 rw [← this]
 exact ⟨fun h => h.2, fun h' => ⟨h, h'⟩⟩
theorem has_first {p : Pf} (h : ok p) : has p (fst p) := ⟨h, Int.le_refl _, (fst_le h).1⟩
theorem less_irrefl (p : Pf) : ¬ less p p := by unfold less; omega
theorem less_trans {p q r : Pf} (h1 : less p q) (h2 : less q r) : less p r := by unfold less at *; omega
theorem less_asymm {p q : Pf} (h1 : less p q) : ¬ less q p := by unfold less at *; omega
theorem less_no {p q : Pf} (h : ¬ ok p) (hq : ok q) : less p q := by
 unfold less
 rw [fst_no h]
 have := fst_ge hq
 omega
theorem less_total {p q : Pf} (hp : ok p) (hq : ok q) (h1 : ¬ less p q) (h2 : ¬ less q p) : p = q := by
 unfold less at h1 h2
 have e1 : fst p = fst q := by omega
 have e2 : p.len = q.len := by omega
 refine pf_eq e2 ?_
 rw [fst_ok hp, fst_ok hq] at e1
 have e3 : span p = span q := by unfold span; rw [e2]
 rw [← e3] at e1
 rcases ok_cases hp with h | h | h | h | h | h | h | h | h <;> (obtain ⟨_, e, _⟩ := h; rw [e] at e1; omega)
theorem nested {p q : Pf} {a : Int} (h : less p q) (hp : has p a) (hq : has q a) : p.len < q.len := by
 unfold less at h
 rcases h with h | h
 ·have h1 := hp.2; have h2 := hq.2
  rw [fst_ok hp.1, lst_ok hp.1] at h1;rw [fst_ok hq.1, lst_ok hq.1] at h2
  rw [fst_ok hp.1, fst_ok hq.1] at h;rcases ok_cases hp.1 with k | k | k | k | k | k | k | k | k <;> (obtain ⟨l1, e1, _⟩ := k; rw [e1] at h h1; rcases ok_cases hq.1 with k | k | k | k | k | k | k | k | k <;> (obtain ⟨l2, e2, _⟩ := k; rw [e2] at h h2; omega))
 exact h.2
def Wf (L : List Rt) : Prop := (∀ r ∈ L, ok r.p ∧ hopOK r.hop) ∧ L.Pairwise (fun r s => less r.p s.p)
theorem Wf.nil : Wf [] := ⟨fun _ h => (by cases h), List.Pairwise.nil⟩
theorem Wf.ok {L : List Rt} (h : Wf L) {r : Rt} (hr : r ∈ L) : Tb.ok r.p := (h.1 r hr).1
def lo (L : List Rt) (p : Pf) : List Rt := L.filter fun r => decide (less r.p p)
def hi (L : List Rt) (p : Pf) : List Rt := L.filter fun r => decide (less p r.p)
def mid (p : Pf) (hop : Int) : List Rt := if hop = -2 then [] else [⟨p, hop⟩]
def get : List Rt → Pf → Int
 | [], _ => -2
 | r :: l, p => if r.p = p ∧ Tb.ok p then r.hop else get l p
def setOk (L : List Rt) (p : Pf) (hop : Int) : List Rt := lo L p ++ mid p hop ++ hi L p
def setC (L : List Rt) (p : Pf) (hop : Int) : Int :=
 if ¬ Tb.ok p ∨ (hop ≠ -2 ∧ ¬ hopOK hop) then 1 else if get L p = -2 ∧ hop = -2 then 6 else if get L p = -2 ∧ 40 ≤ L.length then 9 else 0
def setL (L : List Rt) (p : Pf) (hop : Int) : List Rt := if setC L p hop = 0 then setOk L p hop else L
theorem get_no {L : List Rt} {p : Pf} (h : ¬ Tb.ok p) : get L p = -2 := by
 induction L with
 | nil => rfl
 | cons r l ih => unfold get; rw [if_neg (fun k => h k.2)]; exact ih
theorem get_none {L : List Rt} {p : Pf} (h : ∀ r ∈ L, r.p ≠ p) : get L p = -2 := by
 induction L with
 | nil => rfl
 | cons r l ih => unfold get; rw [if_neg (fun k => h r (List.mem_cons_self ..) k.1)]; exact ih (fun s hs => h s (List.mem_cons_of_mem _ hs))
theorem get_skip {A B : List Rt} {p : Pf} (h : ∀ r ∈ A, ¬ (r.p = p ∧ Tb.ok p)) : get (A ++ B) p = get B p := by
 induction A with
 | nil => rfl
 | cons r l ih =>
  rw [List.cons_append];show (if r.p = p ∧ Tb.ok p then r.hop else get (l ++ B) p) = _
  rw [if_neg (h r (List.mem_cons_self ..))];exact ih (fun s hs => h s (List.mem_cons_of_mem _ hs))
theorem split_wf {L : List Rt} (h : Wf L) {p : Pf} (hp : Tb.ok p) : (get L p = -2 ∧ L = lo L p ++ hi L p ∧ ∀ r ∈ L, r.p ≠ p) ∨ (get L p ≠ -2 ∧ hopOK (get L p) ∧ L = lo L p ++ ⟨p, get L p⟩ :: hi L p) := by
 induction L with
 | nil => exact .inl ⟨rfl, rfl, fun _ h => by cases h⟩
 | cons r l ih =>
  have hl : Wf l := ⟨fun s hs => h.1 s (List.mem_cons_of_mem _ hs), (List.pairwise_cons.1 h.2).2⟩
  have hb := (List.pairwise_cons.1 h.2).1
  obtain ⟨hr1, hr2⟩ := h.1 r (List.mem_cons_self ..)
  by_cases h1 : less r.p p
  ·have e1 : lo (r :: l) p = r :: lo l p := by unfold lo; rw [List.filter_cons_of_pos (by simpa using h1)]
   have e2 : hi (r :: l) p = hi l p := by unfold hi; rw [List.filter_cons_of_neg (by simpa using less_asymm h1)]
   have hne : r.p ≠ p := fun e => less_irrefl p (e ▸ h1)
   have e3 : get (r :: l) p = get l p := by show (if r.p = p ∧ Tb.ok p then r.hop else get l p) = _; rw [if_neg (fun k => hne k.1)]
   rw [e1, e2, e3];rcases ih hl with ⟨g1, g2, g3⟩ | ⟨g1, g2, g3⟩
   ·refine .inl ⟨g1, by rw [List.cons_append, ← g2], fun s hs => ?_⟩
    rcases List.mem_cons.1 hs with rfl | hs
    ·exact hne
    exact g3 s hs
   exact .inr ⟨g1, g2, by rw [List.cons_append, ← g3]⟩
  have hlo : ∀ s ∈ l, ¬ less s.p p := fun s hs k => h1 (less_trans (hb s hs) k)
  have e1 : lo (r :: l) p = [] := by
   unfold lo;rw [List.filter_eq_nil_iff]
   intro s hs;rcases List.mem_cons.1 hs with rfl | hs
   ·simpa using h1
   simpa using hlo s hs
  by_cases h2 : less p r.p
  ·have hhi : ∀ s ∈ r :: l, less p s.p := fun s hs => by
    rcases List.mem_cons.1 hs with rfl | hs
    ·exact h2
    exact less_trans h2 (hb s hs)
   have e2 : hi (r :: l) p = r :: l := by
    unfold hi;rw [List.filter_eq_self]
    intro s hs;simpa using hhi s hs
   have hne : ∀ s ∈ r :: l, s.p ≠ p := fun s hs e => less_irrefl p (by have := hhi s hs; rwa [e] at this)
   rw [e1, e2];exact .inl ⟨get_none hne, rfl, hne⟩
  have he : r.p = p := less_total hr1 hp h1 h2
  have hhi : ∀ s ∈ l, less p s.p := fun s hs => he ▸ hb s hs
  have e2 : hi (r :: l) p = l := by
   unfold hi;rw [List.filter_cons_of_neg (by simpa using h2), List.filter_eq_self]
   intro s hs;simpa using hhi s hs
  have e3 : get (r :: l) p = r.hop := by show (if r.p = p ∧ Tb.ok p then r.hop else get l p) = _; rw [if_pos ⟨he, hp⟩]
  rw [e1, e2, e3];refine .inr ⟨?_, hr2, ?_⟩
  ·unfold hopOK at hr2; omega
  cases r; simp_all
theorem lo_le (L : List Rt) (p : Pf) : (lo L p).length ≤ L.length := List.length_filter_le _ _
theorem lo_mem {L : List Rt} {p : Pf} {r : Rt} (h : r ∈ lo L p) : r ∈ L ∧ less r.p p := by
 unfold lo at h; rw [List.mem_filter] at h; exact ⟨h.1, by simpa using h.2⟩
theorem hi_mem {L : List Rt} {p : Pf} {r : Rt} (h : r ∈ hi L p) : r ∈ L ∧ less p r.p := by
 unfold hi at h; rw [List.mem_filter] at h; exact ⟨h.1, by simpa using h.2⟩
theorem mid_mem {p : Pf} {h : Int} {r : Rt} (hr : r ∈ mid p h) : r = ⟨p, h⟩ ∧ h ≠ -2 := by
 unfold mid at hr
 split at hr
 ·cases hr
 rename_i h1; simp at hr; exact ⟨hr, h1⟩
theorem wf_set {L : List Rt} (h : Wf L) {p : Pf} {hop : Int} (hp : Tb.ok p) (hh : hop = -2 ∨ hopOK hop) : Wf (setOk L p hop) := by
 refine ⟨fun r hr => ?_, ?_⟩
 ·unfold setOk at hr;rcases List.mem_append.1 hr with hr | hr
  ·rcases List.mem_append.1 hr with hr | hr
   ·exact h.1 r (lo_mem hr).1
   obtain ⟨rfl, h1⟩ := mid_mem hr
   exact ⟨hp, hh.resolve_left h1⟩
  exact h.1 r (hi_mem hr).1
 unfold setOk
 rw [List.pairwise_append, List.pairwise_append]
 refine ⟨⟨h.2.filter _, ?_, ?_⟩, h.2.filter _, ?_⟩
 ·unfold mid; split
  ·exact List.Pairwise.nil
  simp
 ·intro a ha b hb;obtain ⟨rfl, _⟩ := mid_mem hb
  exact (lo_mem ha).2
 intro a ha b hb
 rcases List.mem_append.1 ha with ha | ha
 ·exact less_trans (lo_mem ha).2 (hi_mem hb).2
 obtain ⟨rfl, _⟩ := mid_mem ha
 exact (hi_mem hb).2
theorem setC_0 {L : List Rt} {p : Pf} {hop : Int} (h : setC L p hop = 0) : Tb.ok p ∧ (hop = -2 ∨ hopOK hop) ∧ ¬ (get L p = -2 ∧ hop = -2) ∧ ¬ (get L p = -2 ∧ 40 ≤ L.length) := by
 unfold setC at h
 split at h
 ·cases h
 rename_i h1
 split at h
 ·cases h
 rename_i h2
 split at h
 ·cases h
 rename_i h3
 refine ⟨by simp at h1; exact h1.1, ?_, h2, h3⟩
 by_cases e : hop = -2
 ·exact .inl e
 refine .inr ?_
 simp at h1
 exact h1.2 e
theorem len_set {L : List Rt} (h : Wf L) {p : Pf} {hop : Int} (hl : L.length ≤ 40) (hc : setC L p hop = 0) : (setOk L p hop).length ≤ 40 := by
 obtain ⟨hp, _, h2, h3⟩ := setC_0 hc
 have hm : (mid p hop).length ≤ 1 := by unfold mid; split <;> simp
 unfold setOk
 rw [List.length_append, List.length_append]
 rcases split_wf h hp with ⟨g1, g2, _⟩ | ⟨g1, _, g2⟩
 ·have := congrArg List.length g2
  rw [List.length_append] at this;omega
 have := congrArg List.length g2
 rw [List.length_append, List.length_cons] at this
 omega
theorem setL_ok {L : List Rt} (h : Wf L) (hl : L.length ≤ 40) (p : Pf) (hop : Int) : Wf (setL L p hop) ∧ (setL L p hop).length ≤ 40 := by
 unfold setL
 split
 ·rename_i hc
  obtain ⟨hp, hh, _, _⟩ := setC_0 hc
  exact ⟨wf_set h hp hh, len_set h hl hc⟩
 exact ⟨h, hl⟩
def lookF (a : Int) (h : Int) (r : Rt) : Int := if has r.p a then r.hop else h
def look (L : List Rt) (a : Int) : Int := L.foldl (lookF a) (-1)
def lookG (a : Int) (s : Int × Int) (r : Rt) : Int × Int := if has r.p a ∧ s.2 < r.p.len then (r.hop, r.p.len) else s
def lookR (L : List Rt) (a : Int) : Int × Int := L.foldl (lookG a) (-1, -1)
theorem look_app (L : List Rt) (r : Rt) (a : Int) : look (L ++ [r]) a = lookF a (look L a) r := by unfold look; rw [List.foldl_append]; rfl
theorem lookR_app (L : List Rt) (r : Rt) (a : Int) : lookR (L ++ [r]) a = lookG a (lookR L a) r := by unfold lookR; rw [List.foldl_append]; rfl
theorem wf_app {L : List Rt} {r : Rt} (h : Wf (L ++ [r])) : Wf L ∧ ∀ s ∈ L, less s.p r.p := by
 refine ⟨⟨fun s hs => h.1 s (List.mem_append_left _ hs), (List.pairwise_append.1 h.2).1⟩, fun s hs => (List.pairwise_append.1 h.2).2.2 s hs r (List.mem_singleton.2 rfl)⟩
theorem look_both {L : List Rt} (h : Wf L) (a : Int) : (lookR L a).1 = look L a ∧ ((lookR L a).2 = -1 ∨ ∃ s ∈ L, has s.p a ∧ (lookR L a).2 = s.p.len) := by
 revert h
 generalize hn : L.length = n
 intro h
 induction n generalizing L with
 | zero =>
  rw [List.length_eq_zero_iff.1 hn];exact ⟨rfl, .inl rfl⟩
 | succ n ih =>
  obtain ⟨T, r, rfl⟩ : ∃ T r, L = T ++ [r] := ⟨L.dropLast, L.getLast (by intro e; rw [e] at hn; cases hn), (List.dropLast_concat_getLast _).symm⟩
  obtain ⟨h1, h2⟩ := wf_app h
  obtain ⟨i1, i2⟩ := ih (by simpa using hn) h1
  have hr := (h.1 r (List.mem_append_right _ (List.mem_singleton.2 rfl))).1
  rw [look_app, lookR_app];unfold lookG lookF
  by_cases hh : has r.p a
  ·have hlt : (lookR T a).2 < r.p.len := by
    rcases i2 with e | ⟨s, hs, h3, e⟩
    ·rw [e]; have := hr.1; omega
    rw [e]; exact nested (h2 s hs) h3 hh
   rw [if_pos ⟨hh, hlt⟩, if_pos hh];exact ⟨rfl, .inr ⟨r, List.mem_append_right _ (List.mem_singleton.2 rfl), hh, rfl⟩⟩
  rw [if_neg (fun k => hh k.1), if_neg hh];refine ⟨i1, ?_⟩
  rcases i2 with e | ⟨s, hs, h3, e⟩
  ·exact .inl e
  exact .inr ⟨s, List.mem_append_left _ hs, h3, e⟩
def fF (f : Nat → Int) (k : Nat) : Nat → Int
 | 0 => 0
 | n + 1 => if f k ≠ 0 then f k else fF f (k + 1) n
theorem fF_hit {f : Nat → Int} : ∀ (n k m : Nat), k ≤ m → m < k + n → (∀ j, k ≤ j → j < m → f j = 0) → f m ≠ 0 → fF f k n = f m
 | 0, _, _, h1, h2, _, _ => by omega
 | n + 1, k, m, h1, h2, h3, h4 => by
  unfold fF;by_cases e : k = m
  ·subst e; rw [if_pos h4]
  rw [if_neg (by rw [h3 k (Nat.le_refl _) (by omega)]; simp)]
  exact fF_hit n (k + 1) m (by omega) (by omega) (fun j h5 h6 => h3 j (by omega) h6) h4
theorem fF_zero {f : Nat → Int} : ∀ (n k : Nat), (∀ j, k ≤ j → j < k + n → f j = 0) → fF f k n = 0
 | 0, _, _ => rfl
 | n + 1, k, h => by
  unfold fF;rw [if_neg (by rw [h k (Nat.le_refl _) (by omega)]; simp)]
  exact fF_zero n (k + 1) (fun j h1 h2 => h j (by omega) (by omega))
def nth (L : List Rt) (k : Nat) : Rt := L.getD k default
def faultAt (L : List Rt) (k : Nat) : Int :=
 if ¬ Tb.ok (nth L k).p ∨ ¬ hopOK (nth L k).hop then 1 else if 0 < k ∧ (nth L (k - 1)).p = (nth L k).p then 5 else if 0 < k ∧ ¬ less (nth L (k - 1)).p (nth L k).p then 4 else 0
def chk (L : List Rt) : Int := if 40 < L.length then 3 else fF (faultAt L) 0 L.length
theorem nth_eq {L : List Rt} {k : Nat} (h : k < L.length) : nth L k = L[k] := by unfold nth; simp [List.getD_eq_getElem?_getD, h]
theorem nth_mem {L : List Rt} {k : Nat} (h : k < L.length) : nth L k ∈ L := by rw [nth_eq h]; exact List.getElem_mem _
theorem take_succ {L : List Rt} {k : Nat} (h : k < L.length) : L.take (k + 1) = L.take k ++ [nth L k] := by rw [nth_eq h, List.take_succ_eq_append_getElem h]
theorem wf_faults {L : List Rt} (h : Wf L) {k : Nat} (hk : k < L.length) : faultAt L k = 0 := by
 have h1 := h.1 _ (nth_mem hk)
 unfold faultAt
 rw [if_neg (by simp [h1.1, h1.2])]
 by_cases h0 : 0 < k
 ·have hl : less (nth L (k - 1)).p (nth L k).p := by
   rw [nth_eq hk, nth_eq (by omega : k - 1 < L.length)];exact List.pairwise_iff_getElem.1 h.2 (k - 1) k (by omega) hk (by omega)
  rw [if_neg (fun e => less_irrefl (nth L k).p (by have := hl; rwa [e.2] at this)), if_neg (by simp [hl])]
 rw [if_neg (fun e => h0 e.1), if_neg (fun e => h0 e.1)]
theorem chk_of_wf {L : List Rt} (h : Wf L) : chk L = if 40 < L.length then 3 else 0 := by
 unfold chk
 split
 ·rfl
 exact fF_zero _ _ (fun j _ h2 => wf_faults h (by omega))
def allOf (L : List Rt) : List Int := (List.range 256).map fun (a : Nat) => look L a
theorem allOf_len (L : List Rt) : (allOf L).length = 256 := by simp [allOf]
end Go.Proofs.YtffoilacaffdgaaGreatDoor.Tb
namespace Go.Proofs.YtffoilacaffdgaaGreatDoor
open Go.RowKit Go.Deep
def IntFr (n : Int) (w : World) (e : Ending) (w' : World) : Prop := e = .returned (.int .i64 n) ∧ Fr NoB w w'
theorem box0 (w : World) (x y : Value) (t : TypeId) : (w.alloc (.cells #[x, y] t)).cell? ⟨w.heap.size, 0, none⟩ = some x := by simp
theorem box1 (w : World) (x y : Value) (t : TypeId) : (w.alloc (.cells #[x, y] t)).cell? ⟨w.heap.size, 1, none⟩ = some y := by simp
theorem wrap_pow {l : Int} (h1 : 0 ≤ l) (h2 : l ≤ 8) : wrap64 (2 ^ l.toNat) = 2 ^ l.toNat := by
 have h : ∃ m : Int, 2 ^ l.toNat = m ∧ 0 ≤ m ∧ m ≤ 256 := by
  have : l = 0 ∨ l = 1 ∨ l = 2 ∨ l = 3 ∨ l = 4 ∨ l = 5 ∨ l = 6 ∨ l = 7 ∨ l = 8 := by omega
  rcases this with rfl | rfl | rfl | rfl | rfl | rfl | rfl | rfl | rfl <;> exact ⟨_, rfl, by decide, by decide⟩
 obtain ⟨m, hm, h3, h4⟩ := h
 rw [hm]; unfold wrap64; omega
theorem Check_any (l b : Int) (w : World) :
  Calls Tryz.prog 109 #[.agg #[.int .i64 l, .int .i64 b]] w (BoolFr (decide (Tb.ok ⟨l, b⟩)) w) := by
 by_cases h1 : 0 ≤ l
 ·have h1' : decide (0 ≤ l) = true := by simpa using h1
  by_cases h2 : l ≤ 8
  ·have h2' : decide (l ≤ 8) = true := by simpa using h2
   by_cases h3 : 0 ≤ b
   ·have h3' : decide (0 ≤ b) = true := by simpa using h3
    have hw := wrap_pow h1 h2
    have he : decide (Tb.ok ⟨l, b⟩) = decide (b < 2 ^ l.toNat) := by
     refine decide_eq_decide.2 ⟨fun h => h.2.2.2, fun h => ⟨h1, h2, h3, h⟩⟩
    rw [he, ← hw];clear hw he
    go_enter Tryz.func109, Tryz.ntmps109
    go_wp2;go_quiet (fail)
    go_wp2;go_ret
    exact ⟨rfl, ((Fr.refl _ _).alloc _).drewN _⟩
   rw [decide_eq_false (show ¬ Tb.ok ⟨l, b⟩ from fun h => h3 h.2.2.1)];have h3' : decide (0 ≤ b) = false := by simpa using h3
   go_enter Tryz.func109, Tryz.ntmps109
   go_wp2;go_quiet (fail)
   go_wp2;go_ret
   exact ⟨rfl, ((Fr.refl _ _).alloc _).drewN _⟩
  rw [decide_eq_false (show ¬ Tb.ok ⟨l, b⟩ from fun h => h2 h.2.1)];have h2' : decide (l ≤ 8) = false := by simpa using h2
  go_enter Tryz.func109, Tryz.ntmps109
  go_wp2;go_quiet (fail)
  go_wp2;go_ret
  exact ⟨rfl, ((Fr.refl _ _).alloc _).drewN _⟩
 rw [decide_eq_false (show ¬ Tb.ok ⟨l, b⟩ from fun h => h1 h.1)]
 have h1' : decide (0 ≤ l) = false := by simpa using h1
 go_enter Tryz.func109, Tryz.ntmps109
 go_wp2
 go_quiet (fail)
 go_wp2
 go_ret
 exact ⟨rfl, ((Fr.refl _ _).alloc _).drewN _⟩
theorem fst_wrap {p : Tb.Pf} (h : Tb.ok p) : wrap64 (p.bits * 2 ^ (8 - p.len).toNat) = Tb.fst p := by
 rw [Tb.fst_ok h]
 have h3 := h.2.2.1
 show wrap64 (p.bits * Tb.span p) = _
 rcases Tb.ok_cases h with h | h | h | h | h | h | h | h | h <;> (obtain ⟨_, e, _⟩ := h; rw [e]; unfold wrap64; omega)
theorem First_any (l b : Int) (w : World) :
  Calls Tryz.prog 173 #[.agg #[.int .i64 l, .int .i64 b]] w (IntFr (Tb.fst ⟨l, b⟩) w) := by
 by_cases h : Tb.ok ⟨l, b⟩
 ·have hd := decide_eq_true h
  rw [← fst_wrap h];obtain ⟨h1, h2, h3, h4⟩ := h
  dsimp only at h1 h2 h3 h4 ⊢
  have HD := zh hd; clear hd; have H4 := zh h4; clear h4;go_enter Tryz.func173, Tryz.ntmps173
  go_wp2_with fail;refine (Check_any l b _).mono ?_
  rw [HD.out];rintro e w1 ⟨rfl, hf⟩
  have c0 := cell_fr' hf (box0 w (.int .i64 l) (.int .i64 b) 83) (fun h => h)
  have c1 := cell_fr' hf (box1 w (.int .i64 l) (.int .i64 b) 83) (fun h => h)
  have hF := ((Fr.refl NoB w).alloc _).trans hf
  have HF := zh hF; clear hF;clear hf
  go_wp2;go_ret
  exact ⟨rfl, HF.out⟩
 have hd := decide_eq_false h
 rw [Tb.fst_no h]
 have HD := zh hd; clear hd; have H := zh h; clear h
 go_enter Tryz.func173, Tryz.ntmps173
 go_wp2_with fail
 refine (Check_any l b _).mono ?_
 rw [HD.out]
 rintro e w1 ⟨rfl, hf⟩
 have hF := ((Fr.refl NoB w).alloc _).trans hf
 have HF := zh hF; clear hF
 clear hf
 go_wp2
 go_ret
 exact ⟨rfl, HF.out⟩
theorem span_in {p : Tb.Pf} (h : Tb.ok p) : 1 ≤ Tb.span p ∧ Tb.span p ≤ 256 := by
 rcases Tb.ok_cases h with h | h | h | h | h | h | h | h | h <;> (obtain ⟨_, e, _⟩ := h; rw [e]; omega)
theorem lst_wrap {p : Tb.Pf} (h : Tb.ok p) : IntKind.i64.wrap (IntKind.i64.wrap (Tb.fst p + IntKind.i64.wrap (2 ^ (8 - p.len).toNat)) - 1) = Tb.lst p := by
 have hs := span_in h
 have h0 := Tb.fst_ge h
 have h1 := Tb.fst_le h
 have e : Tb.lst p = Tb.fst p + Tb.span p - 1 := by rw [Tb.fst_ok h, Tb.lst_ok h]
 show IntKind.i64.wrap (IntKind.i64.wrap (Tb.fst p + IntKind.i64.wrap (Tb.span p)) - 1) = Tb.lst p
 rw [IntWalk.i64_in (Tb.span p) (by omega), IntWalk.i64_in (Tb.fst p + Tb.span p) (by omega), IntWalk.i64_in _ (by omega), e]
theorem Last_any (l b : Int) (w : World) :
  Calls Tryz.prog 178 #[.agg #[.int .i64 l, .int .i64 b]] w (IntFr (Tb.lst ⟨l, b⟩) w) := by
 by_cases h : Tb.ok ⟨l, b⟩
 ·have hd := decide_eq_true h
  rw [← lst_wrap h];obtain ⟨h1, h2, h3, h4⟩ := h
  dsimp only at h1 h2 h3 h4 ⊢
  have HD := zh hd; clear hd; have H4 := zh h4; clear h4;generalize hfst : Tb.fst ⟨l, b⟩ = f0
  have hsub := IntWalk.i64_in ((8 : Int) - l) (by omega)
  have hge : (0 : Int) ≤ 8 - l := by omega
  have hFst := zh hfst; clear hfst;go_enter Tryz.func178, Tryz.ntmps178
  go_wp2_with fail;refine (Check_any l b _).mono ?_
  rw [HD.out];rintro e w1 ⟨rfl, hf⟩
  have c0 := cell_fr' hf (box0 w (.int .i64 l) (.int .i64 b) 83) (fun h => h)
  have c1 := cell_fr' hf (box1 w (.int .i64 l) (.int .i64 b) 83) (fun h => h)
  have hF := ((Fr.refl NoB w).alloc _).trans hf
  have HF := zh hF; clear hF;clear hf
  go_wp2
  go_region_held3 (fun W => W.cell? ⟨w.heap.size, 0, none⟩ = some (.int .i64 l) ∧ W.cell? ⟨w.heap.size, 1, none⟩ = some (.int .i64 b)) (first | exact ⟨s0, s1⟩ | exact ⟨c0, c1⟩)
   (first | (go_at_call 173; refine (First_any l b _).mono ?_; rintro e w2 ⟨rfl, hf⟩; rw [hFst.out]; have s0 := cell_fr' hf c0 nB; have s1 := cell_fr' hf c1 nB))
  all_goals (
   go_wp2;go_ret
   exact ⟨rfl, HF.out.drew.trans hf⟩)
 have hd := decide_eq_false h
 rw [Tb.lst_no h]
 have HD := zh hd; clear hd; have H := zh h; clear h
 go_enter Tryz.func178, Tryz.ntmps178
 go_wp2_with fail
 refine (Check_any l b _).mono ?_
 rw [HD.out]
 rintro e w1 ⟨rfl, hf⟩
 have hF := ((Fr.refl NoB w).alloc _).trans hf
 have HF := zh hF; clear hF
 clear hf
 go_wp2
 go_ret
 exact ⟨rfl, HF.out⟩
theorem Has_any (l b a : Int) (w : World) :
  Calls Tryz.prog 153 #[.agg #[.int .i64 l, .int .i64 b], .int .i64 a] w (BoolFr (decide (Tb.has ⟨l, b⟩ a)) w) := by
 by_cases h : Tb.ok ⟨l, b⟩
 ·have hd := decide_eq_true h
  by_cases h1 : Tb.fst ⟨l, b⟩ ≤ a
  ·have he : decide (Tb.has ⟨l, b⟩ a) = decide (a ≤ Tb.lst ⟨l, b⟩) := decide_eq_decide.2 ⟨fun k => k.2.2, fun k => ⟨h, h1, k⟩⟩
   rw [he];have HD := zh hd; clear hd; have H := zh h; clear h
   clear he;generalize hfst : Tb.fst ⟨l, b⟩ = f0 at *
   have hFst := zh hfst; clear hfst;go_enter Tryz.func153, Tryz.ntmps153
   go_wp2_with fail;refine (Check_any l b _).mono ?_
   rw [HD.out];rintro e w1 ⟨rfl, hf⟩
   have c0 := cell_fr' hf (box0 w (.int .i64 l) (.int .i64 b) 83) (fun h => h)
   have c1 := cell_fr' hf (box1 w (.int .i64 l) (.int .i64 b) 83) (fun h => h)
   have hF := ((Fr.refl NoB w).alloc _).trans hf
   have HF := zh hF; clear hF;clear hf
   go_wp2_with fail;refine (First_any l b _).mono ?_
   rw [hFst.out];rintro e w2 ⟨rfl, hf⟩
   have c0 := cell_fr' hf c0 nB
   have c1 := cell_fr' hf c1 nB
   have hF := HF.out.trans hf
   clear HF;have HF := zh hF; clear hF
   clear hf;go_wp2_with fail
   refine (Last_any l b _).mono ?_
   rintro e w3 ⟨rfl, hf⟩
   have hF := HF.out.trans hf
   clear HF;have HF := zh hF; clear hF
   clear hf;go_wp2
   go_ret
   exact ⟨rfl, HF.out⟩
  rw [decide_eq_false (fun k : Tb.has ⟨l, b⟩ a => h1 k.2.1)];have HD := zh hd; clear hd; have H := zh h; clear h
  generalize hfst : Tb.fst ⟨l, b⟩ = f0 at *;have hFst := zh hfst; clear hfst
  go_enter Tryz.func153, Tryz.ntmps153
  go_wp2_with fail;refine (Check_any l b _).mono ?_
  rw [HD.out];rintro e w1 ⟨rfl, hf⟩
  have c0 := cell_fr' hf (box0 w (.int .i64 l) (.int .i64 b) 83) (fun h => h)
  have c1 := cell_fr' hf (box1 w (.int .i64 l) (.int .i64 b) 83) (fun h => h)
  have hF := ((Fr.refl NoB w).alloc _).trans hf
  have HF := zh hF; clear hF;clear hf
  go_wp2_with fail;refine (First_any l b _).mono ?_
  rw [hFst.out];rintro e w2 ⟨rfl, hf⟩
  have hF := HF.out.trans hf
  clear HF;have HF := zh hF; clear hF
  clear hf;go_wp2
  go_ret
  exact ⟨rfl, HF.out⟩
 have hd := decide_eq_false h
 rw [decide_eq_false (fun k : Tb.has ⟨l, b⟩ a => h k.1)]
 have HD := zh hd; clear hd; have H := zh h; clear h
 go_enter Tryz.func153, Tryz.ntmps153
 go_wp2_with fail
 refine (Check_any l b _).mono ?_
 rw [HD.out]
 rintro e w1 ⟨rfl, hf⟩
 have hF := ((Fr.refl NoB w).alloc _).trans hf
 have HF := zh hF; clear hF
 clear hf
 go_wp2
 go_ret
 exact ⟨rfl, HF.out⟩
theorem Less_any (l b m c : Int) (w : World) :
  Calls Tryz.prog 144 #[.agg #[.int .i64 l, .int .i64 b], .agg #[.int .i64 m, .int .i64 c]] w (BoolFr (decide (Tb.less ⟨l, b⟩ ⟨m, c⟩)) w) := by
 generalize hx : Tb.fst ⟨l, b⟩ = f0
 generalize hy : Tb.fst ⟨m, c⟩ = f1
 have he : decide (Tb.less ⟨l, b⟩ ⟨m, c⟩) = (decide (f0 < f1) || (f0 == f1 && decide (l < m))) := by
  rw [Bool.eq_iff_iff]; simp [Tb.less, hx, hy]
 rw [he]
 have HX := zh hx; clear hx; have HY := zh hy; clear hy
 clear he
 have key : (decide (f0 < f1) = true ∧ (f0 == f1) = (f0 == f1)) ∨ (decide (f0 < f1) = false ∧ (f0 == f1) = true) ∨ (decide (f0 < f1) = false ∧ (f0 == f1) = false) := by
  cases h1 : decide (f0 < f1) <;> cases h2 : (f0 == f1) <;> simp
 rcases key with ⟨k1, k2⟩ | ⟨k1, k2⟩ | ⟨k1, k2⟩ <;> rw [k1, k2] <;> (
  go_enter Tryz.func144, Tryz.ntmps144
  go_upto_region 1 with fail
  refine wp_name fun w1 hw1 => ?_
  have c0 : w1.cell? ⟨w.heap.size, 0, none⟩ = some (.int .i64 l) := by rw [hw1]; simp
  have c1 : w1.cell? ⟨w.heap.size, 1, none⟩ = some (.int .i64 b) := by rw [hw1]; simp
  have d0 : w1.cell? ⟨w.heap.size + 1, 0, none⟩ = some (.int .i64 m) := by rw [hw1]; simp
  have d1 : w1.cell? ⟨w.heap.size + 1, 1, none⟩ = some (.int .i64 c) := by rw [hw1]; simp
  have hF : Fr NoB w w1 := by rw [hw1]; exact ((Fr.refl _ _).alloc _).alloc _
  clear hw1;have HF := zh hF; clear hF
  go_region_held3 (fun W => W.cell? ⟨w.heap.size, 0, none⟩ = some (.int .i64 l) ∧ W.cell? ⟨w.heap.size, 1, none⟩ = some (.int .i64 b) ∧ W.cell? ⟨w.heap.size + 1, 0, none⟩ = some (.int .i64 m) ∧ W.cell? ⟨w.heap.size + 1, 1, none⟩ = some (.int .i64 c))
   (first | exact ⟨t0, t1, t2, t3⟩ | exact ⟨s0, s1, s2, s3⟩ | exact ⟨c0, c1, d0, d1⟩)
   (first | (go_at_call 173; have hh := HF.out; clear hh; go_must (refine (First_any _ _ _).mono ?_); go_must (first | rw [HX.out] | rw [HY.out]); go_must (rintro e w2 ⟨rfl, hf⟩); go_must (have s0 := cell_fr' hf c0 nB); go_must (have s1 := cell_fr' hf c1 nB); go_must (have s2 := cell_fr' hf d0 nB); go_must (have s3 := cell_fr' hf d1 nB); go_must (have hF := HF.out.drew.trans hf); go_must (clear hf HF c0 c1 d0 d1); go_must (have HF1 := zh hF); go_must (clear hF)) | (go_at_call 173; have hh := HF1.out; clear hh; go_must (refine (First_any _ _ _).mono ?_); go_must (first | rw [HX.out] | rw [HY.out]); go_must (rintro e w3 ⟨rfl, hf⟩); go_must (have t0 := cell_fr' hf s0 nB); go_must (have t1 := cell_fr' hf s1 nB); go_must (have t2 := cell_fr' hf s2 nB); go_must (have t3 := cell_fr' hf s3 nB); go_must (have hF := HF1.out.trans hf); go_must (clear hf HF1 s0 s1 s2 s3); go_must (have HF2 := zh hF); go_must (clear hF)))
  all_goals (
   go_wp2;go_ret
   exact ⟨by simp, HF2.out⟩))
end Go.Proofs.YtffoilacaffdgaaGreatDoor
namespace Go.Proofs.YtffoilacaffdgaaGreatDoor.Tb
def dg (b : Nat) : UInt8 := if b % 2 = 1 then 49 else 48
def bts : Nat → Nat → List UInt8
 | _, 0 => []
 | b, n + 1 => bts (b / 2) n ++ [dg b]
def bdF : Nat → Nat → List UInt8
 | 0, b => [dg b]
 | f + 1, b => if b < 2 then [dg b] else bdF f (b / 2) ++ [dg b]
def bd (b : Nat) : List UInt8 := bdF 8 b
theorem bd_bts : ∀ l, l < 9 → ∀ b, b < 256 → 0 < l → b < 2 ^ l → Lib.repeatL [48] (l - (bd b).length) ++ bd b = bts b l := by decide +kernel
theorem bd_len : ∀ l, l < 9 → ∀ b, b < 256 → 0 < l → b < 2 ^ l → (bd b).length ≤ l := by decide +kernel
theorem bdF_lt {f b : Nat} (h : b < 2) : bdF f b = [dg b] := by
 cases f with
 | zero => rfl
 | succ f => unfold bdF; rw [if_pos h]
theorem bdF_ge {f b : Nat} (h : 2 ≤ b) : bdF (f + 1) b = bdF f (b / 2) ++ [dg b] := by
 show (if b < 2 then [dg b] else bdF f (b / 2) ++ [dg b]) = _
 rw [if_neg (by omega)]
def isb (c : UInt8) : Prop := c = 48 ∨ c = 49
instance (c : UInt8) : Decidable (isb c) := by unfold isb; infer_instance
def allb (l : List UInt8) : Prop := ∀ c ∈ l, isb c
theorem dg_isb (b : Nat) : isb (dg b) := by
 unfold dg isb
 by_cases h : b % 2 = 1
 ·rw [if_pos h]; exact .inr rfl
 rw [if_neg h]; exact .inl rfl
theorem bts_len : ∀ (n b : Nat), (bts b n).length = n
 | 0, _ => rfl
 | n + 1, b => by show (bts (b / 2) n ++ [dg b]).length = _; rw [List.length_append, bts_len n]; rfl
theorem bts_allb : ∀ (n b : Nat), allb (bts b n)
 | 0, _ => fun c hc => by cases hc
 | n + 1, b => fun c hc => by
  rcases List.mem_append.1 hc with h | h
  ·exact bts_allb n (b / 2) c h
  rw [List.mem_singleton] at h;rw [h]
  exact dg_isb b
def vl (l : List UInt8) : Nat := l.foldl (fun a c => a * 2 + (c.toNat - 48)) 0
theorem vl_snoc (l : List UInt8) (c : UInt8) : vl (l ++ [c]) = vl l * 2 + (c.toNat - 48) := by unfold vl; rw [List.foldl_append]; rfl
theorem isb_val {c : UInt8} (h : isb c) : c.toNat - 48 = 0 ∧ c = 48 ∨ c.toNat - 48 = 1 ∧ c = 49 := by
 rcases h with rfl | rfl
 ·exact .inl ⟨rfl, rfl⟩
 exact .inr ⟨rfl, rfl⟩
theorem dg_val {a : Nat} {c : UInt8} (h : isb c) : dg (a * 2 + (c.toNat - 48)) = c := by
 unfold dg
 rcases isb_val h with ⟨e, rfl⟩ | ⟨e, rfl⟩
 ·rw [e, if_neg (by omega)]
 rw [e, if_pos (by omega)]
theorem dg_toNat (b : Nat) : (dg b).toNat - 48 = b % 2 := by
 unfold dg
 by_cases h : b % 2 = 1
 ·rw [if_pos h, h]; rfl
 rw [if_neg h, show b % 2 = 0 from by omega]; rfl
theorem allb_snoc {l : List UInt8} {c : UInt8} (h : allb (l ++ [c])) : allb l ∧ isb c := ⟨fun x hx => h x (List.mem_append_left _ hx), h c (List.mem_append_right _ (List.mem_singleton.2 rfl))⟩
theorem snoc_cases (l : List UInt8) : l = [] ∨ ∃ m c, l = m ++ [c] := by
 by_cases h : l = []
 ·exact .inl h
 exact .inr ⟨l.dropLast, l.getLast h, (List.dropLast_concat_getLast h).symm⟩
theorem bts_vl : ∀ (n : Nat) (l : List UInt8), l.length = n → allb l → bts (vl l) n = l
 | 0, l, h, _ => by rw [List.length_eq_zero_iff.1 h]; rfl
 | n + 1, l, h, ha => by
  rcases snoc_cases l with rfl | ⟨m, c, rfl⟩
  ·simp at h
  obtain ⟨hm, hc⟩ := allb_snoc ha
  rw [vl_snoc];show bts ((vl m * 2 + (c.toNat - 48)) / 2) n ++ [dg (vl m * 2 + (c.toNat - 48))] = _
  rw [dg_val hc];have e : (vl m * 2 + (c.toNat - 48)) / 2 = vl m := by rcases isb_val hc with ⟨e, _⟩ | ⟨e, _⟩ <;> omega
  rw [e, bts_vl n m (by simpa using h) hm]
theorem vl_lt : ∀ (n : Nat) (l : List UInt8), l.length = n → allb l → vl l < 2 ^ n
 | 0, l, h, _ => by rw [List.length_eq_zero_iff.1 h]; decide
 | n + 1, l, h, ha => by
  rcases snoc_cases l with rfl | ⟨m, c, rfl⟩
  ·simp at h
  obtain ⟨hm, hc⟩ := allb_snoc ha
  rw [vl_snoc, Nat.pow_succ];have := vl_lt n m (by simpa using h) hm
  rcases isb_val hc with ⟨e, _⟩ | ⟨e, _⟩ <;> omega
theorem vl_bts : ∀ (n b : Nat), b < 2 ^ n → vl (bts b n) = b
 | 0, b, h => by rw [show b = 0 from by simpa using h]; rfl
 | n + 1, b, h => by
  show vl (bts (b / 2) n ++ [dg b]) = b
  rw [Nat.pow_succ] at h;rw [vl_snoc, vl_bts n (b / 2) (by omega), dg_toNat]
  omega
def tl (n : Nat) : List UInt8 := if n < 8 then [42] else []
theorem tl_lt {n : Nat} (h : n < 8) : tl n = [42] := by unfold tl; rw [if_pos h]
theorem tl_ge {n : Nat} (h : ¬ n < 8) : tl n = [] := by unfold tl; rw [if_neg h]
def txt (p : Pf) : List UInt8 := if ok p then bts p.bits.toNat p.len.toNat ++ tl p.len.toNat else []
theorem txt_ok {p : Pf} (h : ok p) : txt p = bts p.bits.toNat p.len.toNat ++ tl p.len.toNat := by unfold txt; rw [if_pos h]
theorem txt_no {p : Pf} (h : ¬ ok p) : txt p = [] := by unfold txt; rw [if_neg h]
def tells (s : List UInt8) (p : Pf) : Prop := ok p ∧ txt p = s
instance (s : List UInt8) (p : Pf) : Decidable (tells s p) := by unfold tells; infer_instance
theorem no42 {l : List UInt8} (h : allb l) : (42 : UInt8) ∉ l := fun k => by rcases h _ k with e | e <;> exact absurd e (by decide)
theorem snoc_eq {a b : List UInt8} {x : UInt8} (h : a ++ [x] = b ++ [x]) : a = b := List.append_cancel_right h
theorem toNat_lt {p : Pf} (h : ok p) : p.bits.toNat < 2 ^ p.len.toNat := by
 obtain ⟨h1, h2, h3, h4⟩ := h
 have e : ((2 ^ p.len.toNat : Nat) : Int) = 2 ^ p.len.toNat := by simp
 omega
theorem ok_of {n b : Nat} (h1 : n ≤ 8) (h2 : b < 2 ^ n) : ok ⟨n, b⟩ := by
 refine ⟨by show (0 : Int) ≤ n; omega, by show (n : Int) ≤ 8; omega, by show (0 : Int) ≤ b; omega, ?_⟩
 show (b : Int) < 2 ^ (n : Int).toNat
 rw [Int.toNat_natCast]
 have e : ((2 ^ n : Nat) : Int) = 2 ^ n := by simp
 omega
theorem tells_of {t : List UInt8} (ht : allb t) (hl : t.length ≤ 8) : tells (t ++ tl t.length) ⟨t.length, vl t⟩ := by
 have hv := vl_lt t.length t rfl ht
 have ho := ok_of hl hv
 refine ⟨ho, ?_⟩
 rw [txt_ok ho]
 show bts ((vl t : Nat) : Int).toNat ((t.length : Nat) : Int).toNat ++ tl ((t.length : Nat) : Int).toNat = _
 rw [Int.toNat_natCast, Int.toNat_natCast, bts_vl _ t rfl ht]
theorem tells_shape {s : List UInt8} {p : Pf} (h : tells s p) : ∃ t, allb t ∧ t.length ≤ 8 ∧ s = t ++ tl t.length ∧ p = ⟨t.length, vl t⟩ := by
 obtain ⟨ho, rfl⟩ := h
 have h8 : p.len.toNat ≤ 8 := by have := ho.2.1; omega
 refine ⟨bts p.bits.toNat p.len.toNat, bts_allb _ _, by rw [bts_len]; exact h8, ?_, ?_⟩
 ·rw [bts_len, txt_ok ho]
 rw [bts_len, vl_bts _ _ (toNat_lt ho)]
 refine pf_eq ?_ ?_
 ·show p.len = (p.len.toNat : Int)
  have := ho.1; omega
 show p.bits = (p.bits.toNat : Int)
 have := ho.2.2.1; omega
theorem txt_len (p : Pf) : (txt p).length ≤ 9 := by
 by_cases h : ok p
 ·have h8 : p.len.toNat ≤ 8 := by have := h.2.1; omega
  rw [txt_ok h, List.length_append, bts_len];unfold tl
  split <;> simp <;> omega
 rw [txt_no h]; simp
def Cut (s t : List UInt8) : Prop := t.length ≤ 8 ∧ ∀ p, tells s p ↔ (allb t ∧ p = ⟨t.length, vl t⟩)
theorem cut_of {s t : List UInt8} (h8 : t.length ≤ 8) (hs : s = t ++ tl t.length) (h : t.length = 8 → ¬ ∃ u, t = u ++ [42]) : Cut s t := by
 refine ⟨h8, fun p => ⟨fun k => ?_, fun ⟨k1, k2⟩ => ?_⟩⟩
 ·obtain ⟨u, k1, k2, k3, k4⟩ := tells_shape k
  have e : u = t := by
   have e := k3.symm.trans hs
   by_cases h1 : t.length < 8
   ·rw [tl_lt h1] at e;by_cases h2 : u.length < 8
    ·rw [tl_lt h2] at e;exact snoc_eq e
    rw [tl_ge h2, List.append_nil] at e;exact absurd (e ▸ List.mem_append_right _ (List.mem_singleton.2 rfl)) (no42 k1)
   rw [tl_ge h1, List.append_nil] at e;by_cases h2 : u.length < 8
   ·rw [tl_lt h2] at e;exact absurd ⟨u, e.symm⟩ (h (by omega))
   rw [tl_ge h2, List.append_nil] at e;exact e
  subst e;exact ⟨k1, k4⟩
 rw [k2, hs]
 exact tells_of k1 h8
theorem suffix_iff (s : List UInt8) : Lib.hasSuffix s [42] = true ↔ ∃ u, s = u ++ [42] := by
 unfold Lib.hasSuffix
 rw [List.isSuffixOf_iff_suffix]
 exact ⟨fun ⟨u, h⟩ => ⟨u, h.symm⟩, fun ⟨u, h⟩ => ⟨u, h.symm⟩⟩
theorem trim_snoc (u : List UInt8) : Lib.trimSuffix (u ++ [42]) [42] = u := by
 unfold Lib.trimSuffix
 rw [if_pos ((suffix_iff _).2 ⟨u, rfl⟩)]
 simp
theorem trim_no {s : List UInt8} (h : Lib.hasSuffix s [42] = false) : Lib.trimSuffix s [42] = s := by
 unfold Lib.trimSuffix
 rw [if_neg (by rw [h]; decide)]
theorem cut_cases (s : List UInt8) : (∃ t, Lib.trimSuffix s [42] = t ∧ Cut s t ∧ (Lib.hasSuffix s [42] == ((t.length : Int) == 8)) = false) ∨
  ((8 < (Lib.trimSuffix s [42]).length ∨ (Lib.trimSuffix s [42]).length ≤ 8 ∧ (Lib.hasSuffix s [42] == (((Lib.trimSuffix s [42]).length : Int) == 8)) = true) ∧ ∀ p, ¬ tells s p) := by
 by_cases h : Lib.hasSuffix s [42] = true
 ·rw [h];obtain ⟨u, rfl⟩ := (suffix_iff s).1 h
  rw [trim_snoc];by_cases h1 : u.length < 8
  ·refine .inl ⟨u, rfl, cut_of (by omega) (by rw [tl_lt h1]) (fun k => by omega), ?_⟩
   simp; omega
  refine .inr ⟨?_, fun p k => ?_⟩
  ·by_cases h2 : 8 < u.length
   ·exact .inl h2
   exact .inr ⟨by omega, by simp; omega⟩
  obtain ⟨t, k1, k2, k3, _⟩ := tells_shape k
  by_cases h2 : t.length < 8
  ·rw [tl_lt h2] at k3;rw [snoc_eq k3] at h1
   exact h1 h2
  rw [tl_ge h2, List.append_nil] at k3;exact no42 k1 (k3 ▸ List.mem_append_right _ (List.mem_singleton.2 rfl))
 have h' : Lib.hasSuffix s [42] = false := by simpa using h
 rw [h', trim_no h']
 by_cases h1 : s.length = 8
 ·refine .inl ⟨s, rfl, cut_of (by omega) (by rw [tl_ge (by omega), List.append_nil]) (fun _ k => h ((suffix_iff s).2 k)), ?_⟩
  simp; omega
 refine .inr ⟨?_, fun p k => ?_⟩
 ·by_cases h2 : 8 < s.length
  ·exact .inl h2
  exact .inr ⟨by omega, by simp; omega⟩
 obtain ⟨t, k1, k2, k3, _⟩ := tells_shape k
 by_cases h2 : t.length < 8
 ·rw [tl_lt h2] at k3;exact h ((suffix_iff s).2 ⟨t, k3⟩)
 rw [tl_ge h2, List.append_nil] at k3
 rw [k3] at h1
 omega
theorem lead {s : List UInt8} {k : Nat} (hk : k ≤ s.length) (hb : allb (s.take k)) (he : k = s.length ∨ k = 9 ∨ ∃ c, s[k]? = some c ∧ ¬ isb c) (p : Pf) (h : tells s p) : k ≤ 8 ∧ p = ⟨k, vl (s.take k)⟩ := by
 obtain ⟨t, k1, k2, k3, k4⟩ := tells_shape h
 have hl : s.length ≤ 8 := by
  rw [k3, List.length_append];unfold tl
  split <;> simp <;> omega
 have e : k = t.length := by
  rcases Nat.lt_trichotomy k t.length with e | e | e
  ·exfalso
   rcases he with he | he | ⟨c, hc, hn⟩
   ·rw [he, k3, List.length_append] at e; omega
   ·omega
   rw [k3, List.getElem?_append_left e] at hc;exact hn (k1 c (List.mem_of_getElem? hc))
  ·exact e
  exfalso
  have h8 : t.length < 8 := by omega
  rw [tl_lt h8] at k3
  have hm : (42 : UInt8) ∈ s.take k := by
   refine List.mem_of_getElem? (i := t.length) ?_
   rw [List.getElem?_take, if_pos e, k3];simp
  exact no42 hb hm
 refine ⟨by omega, ?_⟩
 rw [k4, e, k3, List.take_left]
end Go.Proofs.YtffoilacaffdgaaGreatDoor.Tb
namespace Go.Proofs.YtffoilacaffdgaaGreatDoor
open Go.RowKit Go.Deep
def Tab (w : World) : Prop := w.cell? ⟨5, 1, none⟩ = some (.int .u8 1)
theorem Tab.keep {w w' : World} (h : Tab w) (hf : Fr NoB w w') : Tab w' := cell_fr' hf h nB
theorem isPow_any (w : World) : Calls Tryz.prog 182 #[.int .i64 2] w (fun e w' => e = .returned (.bool true) ∧ w = w') := by
 have ha : bits BinOp.and IntKind.i64 2 1 = 0 := by decide +kernel
 go_enter Tryz.func182, Tryz.ntmps182
 go_wp2
 go_ret
 exact ⟨rfl, rfl⟩
theorem tz64_any (w : World) (h : Tab w) : Calls Tryz.prog 192 #[.int .u64 2] w (fun e w' => e = .returned (.int .i64 1) ∧ w = w') := by
 have ha : bits BinOp.and IntKind.u64 2 (IntKind.u64.wrap (-2)) = 2 := by decide +kernel
 have hw : IntKind.u64.wrap 571740426102707730 = 571740426102707730 := by decide +kernel
 have hc : w.cell? ⟨5, 1, none⟩ = some (.int .u8 1) := h
 clear h
 go_enter Tryz.func192, Tryz.ntmps192
 go_wp2
 go_ret
 exact ⟨rfl, rfl⟩
theorem tz_any (w : World) (h : Tab w) : Calls Tryz.prog 183 #[.int .u64 2] w (fun e w' => e = .returned (.int .i64 1) ∧ w = w') := by
 have hc := tz64_any w h
 have HC := zh hc
 clear hc h
 go_enter Tryz.func183, Tryz.ntmps183
 go_wp2_with fail
 refine HC.out.mono ?_
 rintro e w1 ⟨rfl, rfl⟩
 go_wp2
 go_ret
 exact ⟨rfl, rfl⟩
structure Env (w : World) : Prop where
 pow : Lib.TabIs Tryz.prog w "internal/strconv.uint64pow10" .u64 Lib.pow10Tab
 tab : Tab w
 syn : ∃ te pe, w.cell? ⟨1, 0, none⟩ = some (.iface te pe)
 ran : ∃ te pe, w.cell? ⟨2, 0, none⟩ = some (.iface te pe)
theorem gPow : Tryz.prog.globalNamed "internal/strconv.uint64pow10" = some 3 := by kernel_rfl
theorem Env.size {w : World} (h : Env w) : 6 ≤ w.heap.size := World.block_lt_of_cell? w _ h.tab
theorem Env.keep {S : Nat → Prop} {w w' : World} (h : Env w) (hf : Fr S w w') (hS : ∀ i, i < 6 → ¬ S i) : Env w' := by
 have hz := h.size
 have hc : ∀ (b : Nat) (v : Value), b < 6 → w.cell? ⟨b, 0, none⟩ = some v → w'.cell? ⟨b, 0, none⟩ = some v := fun b v hb h => cell_fr' hf h (hS b hb)
 refine ⟨?_, cell_fr' hf h.tab (hS _ (by decide)), ?_, ?_⟩
 ·have hp := h.pow
  unfold Lib.TabIs World.var? at hp ⊢
  rw [gPow] at hp ⊢
  simp only [Option.bind_some] at hp ⊢
  rw [hf.block _ (by omega) (hS _ (by decide))];exact hp
 ·obtain ⟨te, pe, e⟩ := h.syn; exact ⟨te, pe, hc _ _ (by decide) e⟩
 obtain ⟨te, pe, e⟩ := h.ran; exact ⟨te, pe, hc _ _ (by decide) e⟩
theorem Env.keep0 {w w' : World} (h : Env w) (hf : Fr NoB w w') : Env w' := h.keep hf (fun _ _ h => h)
end Go.Proofs.YtffoilacaffdgaaGreatDoor
namespace Go.Proofs.YtffoilacaffdgaaGreatDoor.Lk
def upd (f : Nat → Int) (i : Nat) (v : Int) : Nat → Int := fun j => if j = i then v else f j
structure CostOK (C : Nat → Nat → Int) : Prop where
 lo : ∀ a b, a < 6 → b < 6 → 0 ≤ C a b
 hi : ∀ a b, a < 6 → b < 6 → C a b ≤ 15
 sym : ∀ a b, a < 6 → b < 6 → C a b = C b a
 self : ∀ a, a < 6 → C a a = 0
def relax (C : Nat → Nat → Int) (o : Nat → Int) (a b : Nat) : Nat → Int := if 0 < C a b ∧ o a < 200 ∧ o a + C a b < o b then upd o b (o a + C a b) else o
def bfB (C : Nat → Nat → Int) (a : Nat) (o : Nat → Int) : Nat → (Nat → Int)
 | 0 => o
 | j + 1 => relax C (bfB C a o j) a j
def bfA (C : Nat → Nat → Int) (o : Nat → Int) : Nat → (Nat → Int)
 | 0 => o
 | i + 1 => bfB C i (bfA C o i) 6
def bfK (C : Nat → Nat → Int) (o : Nat → Int) : Nat → (Nat → Int)
 | 0 => o
 | k + 1 => bfA C (bfK C o k) 6
def start (s : Int) : Nat → Int := fun n => if (n : Int) = s then 0 else 200
def far (C : Nat → Nat → Int) (s : Int) : Nat → Int := bfK C (start s) 6
section
variable {C : Nat → Nat → Int} {s : Int} {d : Nat → Int}
end
end Go.Proofs.YtffoilacaffdgaaGreatDoor.Lk
namespace Go.Proofs.YtffoilacaffdgaaGreatDoor
open Go.RowKit Go.Deep
theorem Node_yes (n : Int) (w : World) (h0 : 0 ≤ n) (h1 : n < 6) :
  Calls Tryz.prog 66 #[.int .i64 n] w fun e w' => e = .returned (.bool true) ∧ w = w' := by
 go_enter Tryz.func66, Tryz.ntmps66
 go_wp2
 go_ret
 exact ⟨rfl, rfl⟩
theorem Node_no (n : Int) (w : World) (h : ¬ (0 ≤ n ∧ n < 6)) :
  Calls Tryz.prog 66 #[.int .i64 n] w fun e w' => e = .returned (.bool false) ∧ w = w' := by
 by_cases h0 : 0 ≤ n
 ·have h1 : ¬ n < 6 := by omega
  clear h;go_enter Tryz.func66, Tryz.ntmps66
  go_wp2;go_ret
  exact ⟨rfl, rfl⟩
 clear h
 go_enter Tryz.func66, Tryz.ntmps66
 go_wp2
 go_ret
 exact ⟨rfl, rfl⟩
def isNode (n : Int) : Bool := decide (0 ≤ n ∧ n < 6)
theorem Node_any (n : Int) (w : World) :
  Calls Tryz.prog 66 #[.int .i64 n] w fun e w' => e = .returned (.bool (isNode n)) ∧ w = w' := by
 by_cases h : 0 ≤ n ∧ n < 6
 ·refine (Node_yes n w h.1 h.2).mono ?_
  rintro e w' ⟨rfl, rfl⟩
  exact ⟨by simp [isNode, h], rfl⟩
 refine (Node_no n w h).mono ?_
 rintro e w' ⟨rfl, rfl⟩
 exact ⟨by simp only [isNode, h, decide_false], rfl⟩
theorem RNode_yes (n : Int) (w : World) (h0 : 0 ≤ n) (h1 : n < 6) :
  Calls Tryz.prog 60 #[.int .i64 n] w fun e w' => e = .returned (.bool true) ∧ w = w' := by
 go_enter Tryz.func60, Tryz.ntmps60
 go_wp2
 go_ret
 exact ⟨rfl, rfl⟩
theorem RNode_no (n : Int) (w : World) (h : ¬ (0 ≤ n ∧ n < 6)) :
  Calls Tryz.prog 60 #[.int .i64 n] w fun e w' => e = .returned (.bool false) ∧ w = w' := by
 by_cases h0 : 0 ≤ n
 ·have h1 : ¬ n < 6 := by omega
  clear h;go_enter Tryz.func60, Tryz.ntmps60
  go_wp2;go_ret
  exact ⟨rfl, rfl⟩
 clear h
 go_enter Tryz.func60, Tryz.ntmps60
 go_wp2
 go_ret
 exact ⟨rfl, rfl⟩
theorem RNode_any (n : Int) (w : World) :
  Calls Tryz.prog 60 #[.int .i64 n] w fun e w' => e = .returned (.bool (isNode n)) ∧ w = w' := by
 by_cases h : 0 ≤ n ∧ n < 6
 ·refine (RNode_yes n w h.1 h.2).mono ?_
  rintro e w' ⟨rfl, rfl⟩
  exact ⟨by simp [isNode, h], rfl⟩
 refine (RNode_no n w h).mono ?_
 rintro e w' ⟨rfl, rfl⟩
 exact ⟨by simp only [isNode, h, decide_false], rfl⟩
def CAt (w : World) (b : Nat) (t : TypeId) (C : Nat → Nat → Int) : Prop := w.rowIs b t 36 (fun i => .int .i64 (C (i / 6) (i % 6)))
theorem CAt.cell {w : World} {b : Nat} {t : TypeId} {C : Nat → Nat → Int} (h : CAt w b t C) {x y : Nat} (hx : x < 6) (hy : y < 6) : w.cell? ⟨b, x * 6 + y, none⟩ = some (.int .i64 (C x y)) := by
 have := rC h (i := x * 6 + y) (by omega)
 rw [show (x * 6 + y) / 6 = x from by omega, show (x * 6 + y) % 6 = y from by omega] at this
 exact this
def updC (C : Nat → Nat → Int) (a b : Nat) (v : Int) : Nat → Nat → Int := fun x y => if x = a ∧ y = b then v else C x y
theorem CAt.set {w : World} {b : Nat} {t : TypeId} {C : Nat → Nat → Int} (h : CAt w b t C) {x y : Nat} (hy : y < 6) (v : Int) : CAt (w.setCell ⟨b, x * 6 + y, none⟩ (.int .i64 v)) b t (updC C x y v) := by
 refine (World.rowIs.set h (x * 6 + y) (.int .i64 v)).congr ?_
 intro i hi
 unfold updC
 by_cases e : i = x * 6 + y
 ·subst e;rw [if_pos rfl, if_pos ⟨by omega, by omega⟩]
 rw [if_neg e, if_neg (by omega)]
theorem Cost_yes (b : Nat) (x y : Nat) (C : Nat → Nat → Int) (w : World) (hx : x < 6) (hy : y < 6) (hC : CAt w b 140 C) :
  Calls Tryz.prog 121 #[.pointer (some ⟨b, 0, none⟩), .int .i64 x, .int .i64 y] w fun e w' => e = .returned (.int .i64 (C x y)) ∧ w = w' := by
 have hc := hC.cell hx hy
 clear hC
 go_enter Tryz.func121, Tryz.ntmps121
 go_wp2_with (first | (go_at_call 66; refine (Node_yes _ _ (by omega) (by omega)).mono ?_; rintro e w' ⟨rfl, rfl⟩))
 go_ret
 exact ⟨rfl, rfl⟩
theorem Cost_no (b : Nat) (x y : Int) (w : World) (h : ¬ (0 ≤ x ∧ x < 6 ∧ 0 ≤ y ∧ y < 6)) :
  Calls Tryz.prog 121 #[.pointer (some ⟨b, 0, none⟩), .int .i64 x, .int .i64 y] w fun e w' => e = .returned (.int .i64 0) ∧ w = w' := by
 by_cases hx : 0 ≤ x ∧ x < 6
 ·have hy : ¬ (0 ≤ y ∧ y < 6) := by omega
  obtain ⟨hx0, hx1⟩ := hx
  have HY := zh hy; clear hy h;go_enter Tryz.func121, Tryz.ntmps121
  go_wp2_with fail;refine (Node_yes _ _ hx0 hx1).mono ?_; rintro e w' ⟨rfl, rfl⟩
  go_wp2_with fail;refine (Node_no _ _ HY.out).mono ?_; rintro e w' ⟨rfl, rfl⟩
  go_wp2;go_ret
  exact ⟨rfl, rfl⟩
 have HX := zh hx; clear hx h
 go_enter Tryz.func121, Tryz.ntmps121
 go_wp2_with fail
 refine (Node_no _ _ HX.out).mono ?_; rintro e w' ⟨rfl, rfl⟩
 go_wp2
 go_ret
 exact ⟨rfl, rfl⟩
def setC (C : Nat → Nat → Int) (a b : Nat) (v : Int) : Nat → Nat → Int := updC (updC C a b v) b a v
def SetPost (b : Nat) (t : TypeId) (C : Nat → Nat → Int) (w : World) (e : Ending) (w' : World) : Prop := e = .returned (.int .i64 0) ∧ CAt w' b t C ∧ Fr (OneB b) w w'
theorem Set_ok (b x y : Nat) (v : Int) (C : Nat → Nat → Int) (w : World) (hx : x < 6) (hy : y < 6) (hxy : x ≠ y) (h0 : 0 ≤ v) (h1 : v ≤ 15) (hC : CAt w b 140 C) :
  Calls Tryz.prog 163 #[.pointer (some ⟨b, 0, none⟩), .int .i64 x, .int .i64 y, .int .i64 v] w (SetPost b 140 (setC C x y v) w) := by
 have c1 := hC.cell hx hy
 have c2 := hC.cell hy hx
 have f1 := rF hC (x * 6 + y)
 have f2 := rF hC (y * 6 + x)
 have HC := zh hC; clear hC
 have hb : ((x : Int) == (y : Int)) = false := by simp; omega
 go_enter Tryz.func163, Tryz.ntmps163
 go_wp2_with (first | (go_at_call 66; refine (Node_yes _ _ (by omega) (by omega)).mono ?_; rintro e w' ⟨rfl, rfl⟩))
 go_region
 go_wp2
 go_ret
 exact ⟨rfl, World.rowIs.drew ((HC.out.set hy v).set hx v), (((Fr.refl _ _).set1 _ _).set1 _ _).drew⟩
theorem Set_no (b : Nat) (x y v : Int) (w : World) (h : ¬ (0 ≤ x ∧ x < 6 ∧ 0 ≤ y ∧ y < 6 ∧ x ≠ y ∧ 0 ≤ v ∧ v ≤ 15)) :
  Calls Tryz.prog 163 #[.pointer (some ⟨b, 0, none⟩), .int .i64 x, .int .i64 y, .int .i64 v] w fun e w' => e = .returned (.int .i64 1) ∧ w = w' := by
 by_cases hx : 0 ≤ x ∧ x < 6
 ·obtain ⟨hx0, hx1⟩ := hx
  by_cases hy : 0 ≤ y ∧ y < 6
  ·obtain ⟨hy0, hy1⟩ := hy
   by_cases hxy : x = y
   ·subst hxy;clear h
    go_enter Tryz.func163, Tryz.ntmps163
    go_wp2_with (first | (go_at_call 66; refine (Node_yes _ _ (by omega) (by omega)).mono ?_; rintro e w' ⟨rfl, rfl⟩))
    go_ret
    exact ⟨rfl, rfl⟩
   have hb : (x == y) = false := by simp; omega
   by_cases hv : v < 0
   ·clear h hxy;go_enter Tryz.func163, Tryz.ntmps163
    go_wp2_with (first | (go_at_call 66; refine (Node_yes _ _ (by omega) (by omega)).mono ?_; rintro e w' ⟨rfl, rfl⟩))
    go_ret
    exact ⟨rfl, rfl⟩
   have hv1 : 15 < v := by omega
   have hv0 : 0 ≤ v := by omega
   clear h hxy hv;go_enter Tryz.func163, Tryz.ntmps163
   go_wp2_with (first | (go_at_call 66; refine (Node_yes _ _ (by omega) (by omega)).mono ?_; rintro e w' ⟨rfl, rfl⟩))
   go_ret
   exact ⟨rfl, rfl⟩
  have HY := zh hy; clear hy h;go_enter Tryz.func163, Tryz.ntmps163
  go_wp2_with fail;refine (Node_yes _ _ hx0 hx1).mono ?_; rintro e w' ⟨rfl, rfl⟩
  go_wp2_with fail;refine (Node_no _ _ HY.out).mono ?_; rintro e w' ⟨rfl, rfl⟩
  go_wp2;go_ret
  exact ⟨rfl, rfl⟩
 have HX := zh hx; clear hx h
 go_enter Tryz.func163, Tryz.ntmps163
 go_wp2_with fail
 refine (Node_no _ _ HX.out).mono ?_; rintro e w' ⟨rfl, rfl⟩
 go_wp2
 go_ret
 exact ⟨rfl, rfl⟩
def NewLPost (w : World) (e : Ending) (w' : World) : Prop := e = .returned (.pointer (some ⟨w.heap.size, 0, none⟩)) ∧ CAt w' w.heap.size 140 (fun _ _ => 0) ∧ Fr NoB w w'
theorem NewL (w : World) : Calls Tryz.prog 41 #[] w (NewLPost w) := by
 go_enter Tryz.func41, Tryz.ntmps41
 go_wp2
 go_ret
 exact ⟨rfl, rowIs_new w 36 (.int .i64 0) 140, (Fr.refl _ _).alloc _⟩
theorem Tryz.info3 : (Tryz.prog.info? 3).map (fun i => (i.zero, i.size, i.bytes)) = some (some (.int .i64 0), 1, 8) := by kernel_rfl
def ofL (C : Nat → Nat → Int) (a : Nat) (k : Nat) : List Nat := (List.range k).filter (fun b => decide (0 < C a b))
theorem ofL_hit (C : Nat → Nat → Int) (a k : Nat) (h : 0 < C a k) : ofL C a (k + 1) = ofL C a k ++ [k] := by simp [ofL, List.range_succ, h]
theorem ofL_miss (C : Nat → Nat → Int) (a k : Nat) (h : ¬ 0 < C a k) : ofL C a (k + 1) = ofL C a k := by simp [ofL, List.range_succ, h]
theorem ofL_le (C : Nat → Nat → Int) (a k : Nat) : (ofL C a k).length ≤ k := by
 have := List.length_filter_le (fun b => decide (0 < C a b)) (List.range k)
 simpa [ofL] using this
def ints (l : List Nat) : List Int := l.map (fun (n : Nat) => (n : Int))
def OfPost (C : Nat → Nat → Int) (a : Nat) (w : World) (e : Ending) (w' : World) : Prop := ∃ v, e = .returned v ∧ Sl w' w.heap.size v (ints (ofL C a 6)) ∧ Fr NoB w w'
theorem Of_yes (b a : Nat) (C : Nat → Nat → Int) (w : World) (ha : a < 6) (hC : CAt w b 140 C) :
  Calls Tryz.prog 166 #[.pointer (some ⟨b, 0, none⟩), .int .i64 a] w (OfPost C a w) := by
 have HC := zh hC; clear hC
 go_enter Tryz.func166, Tryz.ntmps166
 go_wp2
 go_loopw [5, 7] (fun v i wr => ∃ k : Nat, k ≤ 6 ∧ i = .int .i64 k ∧ Sl wr w.heap.size v (ints (ofL C a k)) ∧ Fr NoB w wr) (fun _ i _ => 6 - (intOf i).toNat)
 case atStart => exact ⟨0, by omega, rfl, Sl.nil _ _, Fr.refl _ _⟩
 case round =>
  obtain ⟨k, hk, rfl, hown, hfr⟩ := hrel
  have HO := zh hown; clear hown;have HF := zh hfr; clear hfr
  by_cases hk6 : k < 6
  ·by_cases hp : 0 < C a k
   ·go_wp2_with fail;refine (Cost_yes _ _ _ C _ ha hk6 (HF.out.row HC.out (fun h => h))).mono ?_; rintro e w' ⟨rfl, rfl⟩
    go_wp2_with (at_builtin; go_loud (refine app_int rfl (.tmp 15) (.tmp 17) 76 rfl Tryz.underlying76 Tryz.info3 w.heap.size u5 (ints (ofL C a k)) rfl (HO.out.alloc _) ⟨wr.heap.size, 0, none⟩ k rfl (by simp) ?h1 ?h2 ?_))
    case h1 => have := ofL_le C a k; simp [ints]; omega
    case h2 => have := HF.out.size; simp; omega
    ·intro v' w1 h1 h2;have H1 := zh h1; clear h1
     have H2 := zh h2; clear h2;go_wp2
     go_roundw
     case rel => exact ⟨k + 1, by omega, by go_num, by rw [ofL_hit C a k hp]; simpa [ints] using H1.out, (HF.out.alloc _).own H2.out⟩
     case measure => simp [intOf]; omega
   go_wp2_with fail;refine (Cost_yes _ _ _ C _ ha hk6 (HF.out.row HC.out (fun h => h))).mono ?_; rintro e w' ⟨rfl, rfl⟩
   go_wp2;go_roundw
   case rel => exact ⟨k + 1, by omega, by go_num, by rw [ofL_miss C a k (by omega)]; exact HO.out, HF.out⟩
   case measure => simp [intOf]; omega
  obtain rfl : k = 6 := by omega
  go_wp2;go_ret
  exact ⟨_, rfl, HO.out, HF.out⟩
theorem MSet_no (b : Nat) (x y v : Int) (w : World) (h : ¬ (0 ≤ x ∧ x < 6 ∧ 0 ≤ y ∧ y < 6 ∧ x ≠ y ∧ 0 ≤ v ∧ v ≤ 15)) :
  Calls Tryz.prog 93 #[.pointer (some ⟨b, 0, none⟩), .int .i64 x, .int .i64 y, .int .i64 v] w fun e w' => e = .returned (.int .i64 1) ∧ w = w' := by
 by_cases hx : 0 ≤ x ∧ x < 6
 ·obtain ⟨hx0, hx1⟩ := hx
  by_cases hy : 0 ≤ y ∧ y < 6
  ·obtain ⟨hy0, hy1⟩ := hy
   by_cases hxy : x = y
   ·subst hxy;clear h
    go_enter Tryz.func93, Tryz.ntmps93
    go_wp2_with (first | (go_at_call 60; refine (RNode_yes _ _ (by omega) (by omega)).mono ?_; rintro e w' ⟨rfl, rfl⟩))
    go_ret
    exact ⟨rfl, rfl⟩
   have hb : (x == y) = false := by simp; omega
   by_cases hv : v < 0
   ·clear h hxy;go_enter Tryz.func93, Tryz.ntmps93
    go_wp2_with (first | (go_at_call 60; refine (RNode_yes _ _ (by omega) (by omega)).mono ?_; rintro e w' ⟨rfl, rfl⟩))
    go_ret
    exact ⟨rfl, rfl⟩
   have hv1 : 15 < v := by omega
   have hv0 : 0 ≤ v := by omega
   clear h hxy hv;go_enter Tryz.func93, Tryz.ntmps93
   go_wp2_with (first | (go_at_call 60; refine (RNode_yes _ _ (by omega) (by omega)).mono ?_; rintro e w' ⟨rfl, rfl⟩))
   go_ret
   exact ⟨rfl, rfl⟩
  have HY := zh hy; clear hy h;go_enter Tryz.func93, Tryz.ntmps93
  go_wp2_with fail;refine (RNode_yes _ _ hx0 hx1).mono ?_; rintro e w' ⟨rfl, rfl⟩
  go_wp2_with fail;refine (RNode_no _ _ HY.out).mono ?_; rintro e w' ⟨rfl, rfl⟩
  go_wp2;go_ret
  exact ⟨rfl, rfl⟩
 have HX := zh hx; clear hx h
 go_enter Tryz.func93, Tryz.ntmps93
 go_wp2_with fail
 refine (RNode_no _ _ HX.out).mono ?_; rintro e w' ⟨rfl, rfl⟩
 go_wp2
 go_ret
 exact ⟨rfl, rfl⟩
theorem CostOK.zero : Lk.CostOK (fun _ _ => 0) := ⟨fun _ _ _ _ => by omega, fun _ _ _ _ => by omega, fun _ _ _ _ => rfl, fun _ _ => rfl⟩
theorem CostOK.set {C : Nat → Nat → Int} (h : Lk.CostOK C) {p q : Nat} (hpq : p ≠ q) {v : Int} (h0 : 0 ≤ v) (h1 : v ≤ 15) : Lk.CostOK (setC C p q v) where
 lo a b ha hb := by
  have := h.lo a b ha hb
  unfold setC updC; split
  ·omega
  split <;> omega
 hi a b ha hb := by
  have := h.hi a b ha hb
  unfold setC updC; split
  ·omega
  split <;> omega
 sym a b ha hb := by
  have := h.sym a b ha hb
  by_cases e1 : a = q ∧ b = p
  ·have e2 : ¬ (b = q ∧ a = p) := by omega
   have e3 : b = p ∧ a = q := ⟨e1.2, e1.1⟩
   simp only [setC, updC, if_pos e1, if_neg e2, if_pos e3]
  by_cases e2 : a = p ∧ b = q
  ·have e3 : b = q ∧ a = p := ⟨e2.2, e2.1⟩
   simp only [setC, updC, if_neg e1, if_pos e2, if_pos e3]
  have e3 : ¬ (b = q ∧ a = p) := fun h => e2 ⟨h.2, h.1⟩
  have e4 : ¬ (b = p ∧ a = q) := fun h => e1 ⟨h.2, h.1⟩
  simp only [setC, updC, if_neg e1, if_neg e2, if_neg e3, if_neg e4]
  exact this
 self a ha := by
  have := h.self a ha
  have e1 : ¬ (a = q ∧ a = p) := by omega
  have e2 : ¬ (a = p ∧ a = q) := by omega
  simp only [setC, updC, if_neg e1, if_neg e2]
  exact this
theorem app_int' {P : Program} {ops : Array Oper} {rest : List Oper} {o : Oper} {a : Act} {w : World} {Q : Exit → Act → World → Prop} (hgd : o.guard = none) (s x : Operand) (t : TypeId)
  (ho : o.op = .call { callee := .builtin .append, args := #[s, x], argTypes := #[t, t] })
  (ht : P.underlying t = some (.slice 3)) (hinfo : (P.info? 3).map (fun i => (i.zero, i.size, i.bytes)) = some (some (.int .i64 0), 1, 8))
  (base : Nat) (v : Value) (xs : List Int) (hs : a.eval s = v) (hown : Sl w base v xs)
  (ad : Addr) (y : Int) (hx : a.eval x = .slice (some ad) 1 1) (hy : w.cell? ad = some (.int .i64 y))
  (h63 : xs.length < 2147483648) (hbase : base ≤ w.heap.size)
  (h : ∀ v' w', Sl w' base v' (xs ++ [y]) → Fr (fun i => v.ownBlock = some i) w w' → wpList P ops Q rest (a.put o.dst v') w') : wpList P ops Q (o :: rest) a w := by
 refine app_own hgd s x t 3 1 8 (.int .i64 0) ho ht hinfo rfl (by omega) base v xs.length (xs.map (Value.int .i64)) hs hown ad 1 1 [.int .i64 y] hx rfl ?_ ?_ (by omega) (by omega) hbase ?_
 ·intro j u hj
  match j, hj with
  | 0, hj => simp at hj; subst hj; simpa [Addr.add] using hy
 ·intro u hu; simp at hu; subst hu; rfl
 intro v' w' h2 h3
 refine h v' w' ?_ h3
 unfold Sl
 simpa using h2
end Go.Proofs.YtffoilacaffdgaaGreatDoor
