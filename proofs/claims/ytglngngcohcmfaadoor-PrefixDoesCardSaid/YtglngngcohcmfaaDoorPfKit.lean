/- More words for the walks: rows that are read, worlds under a name, cells that stay. -/
import Derived.Test.YtglngngcohcmfaaDoorKit
import Derived.StillTailTactics
import Derived.Deep.RegionHeld3
import Derived.Deep.RegionLaw
import Derived.Lib.SliceRun
namespace Go.Proofs.YtglngngcohcmfaaDoor
open Go.RowKit Go.Deep

theorem still_tail {P : Program} {id : Nat} {Q : Exit → Act → World → Prop} {a : Act} {w : World} {l : List Oper} (n : Nat) (hm : P.follows .mixedOrders = true) (hB : Region.lexTailB .any l.toArray n = true)
    (h : wpStill P l.toArray w.drew (fun a' => wpList P l.toArray Q (l.drop n) a' w.drew) (l.take n) a) : (Code.region id l.toArray true).wp P Q a w :=
  wp_region_still_tail n hm hB h
/-- The world under a name. -/
theorem wp_name {P : Program} {c : Code} {Q : Exit → Act → World → Prop} {a : Act} {W : World} (h : ∀ w1, w1 = W → c.wp P Q a w1) : c.wp P Q a W := h W rfl
theorem ret_bool {a b : Bool} (h : a = b) : Ending.returned (.bool a) = .returned (.bool b) := by rw [h]
theorem ret_int {k : IntKind} {a b : Int} (h : a = b) : Ending.returned (.int k a) = .returned (.int k b) := by rw [h]
def BoolFr (r : Bool) (w : World) (e : Ending) (w' : World) : Prop := e = .returned (.bool r) ∧ Fr NoB w w'
theorem Fr.one {b : Nat} {w w' : World} (h : Fr NoB w w') : Fr (OneB b) w w' := h.mono (fun _ _ h => h.elim)
theorem Rd.row {w : World} {g : Nat} {t : TypeId} {n : Nat} {f : Nat → Int} (h : w.rowIs g t n (I f)) : Rd w (some ⟨g, 0, none⟩) n f := fun k hk => ⟨g, 0, rfl, by rw [Nat.zero_add]; exact rowI_cell h hk⟩
theorem Rd.keep {S : Nat → Prop} {w w' : World} {a : Option Addr} {n : Nat} {X : Nat → Int} (h : Rd w a n X) (hf : Fr S w w') (hS : ∀ p, a = some p → ¬ S p.block) : Rd w' a n X := by
  intro k hk
  obtain ⟨b, off, h1, h2⟩ := h k hk
  refine ⟨b, off, h1, ?_⟩
  rw [World.cell?_of_block (w := w) (hf.block b (World.block_lt_of_cell? w _ h2) (hS ⟨b, off, none⟩ h1))]
  exact h2
theorem Rd.drewN {w : World} {a : Option Addr} {n : Nat} {X : Nat → Int} (h : Rd w a n X) (m : Nat) : Rd (w.drewN m) a n X := h
theorem Sl.rd {w : World} {base : Nat} {v : Value} {xs : List Int} (h : Sl w base v xs) : ∃ a cap, v = .slice a xs.length cap ∧ Rd w a xs.length (fun i => xs.getD i 0) ∧ ∀ p, a = some p → base ≤ p.block := by
  rcases h.shape with ⟨h1, h2⟩ | ⟨g, cap, h1, h2, _, h3⟩
  · subst h2
    exact ⟨none, 0, h1, fun k hk => absurd hk (by simp), fun p hp => by cases hp⟩
  · exact ⟨some ⟨g, 0, none⟩, cap, h1, fun i hi => ⟨g, 0, rfl, by rw [Nat.zero_add]; exact h3 i hi⟩, fun p hp => by cases hp; exact h2⟩

theorem cell_fr {S : Nat → Prop} {w w' : World} (h : Fr S w w') {a : Addr} {v : Value} (hc : w.cell? a = some v) (hS : ¬ S a.block) : w'.cell? a = some v := by
  rw [World.cell?_of_block (w := w) (h.block a.block (World.block_lt_of_cell? w a hc) hS)]
  exact hc

theorem ownsRow_rd {w : World} {base : Nat} {e : TypeId} {size : Nat} {v : Value} {n : Nat} {xs : List Int} (h : w.ownsRow base e size v n (xs.map (Value.int .i64))) :
    ∃ a cap, v = .slice a n cap ∧ Rd w a (n * size) (fun i => xs.getD i 0) ∧ (∀ p, a = some p → base ≤ p.block) ∧ (a = none → cap = 0) ∧ n ≤ cap ∧ cap ≤ maxLen ∧ ∀ p, a = some p → p = ⟨p.block, 0, none⟩ := by
  have hlen := h.1
  have hc := fun g => World.ownsRow.cells (g := g) h
  rcases h.2 with ⟨rfl, rfl⟩ | ⟨g, cap, cur, rfl, h2, h3, h4, h5, _⟩
  · exact ⟨none, 0, rfl, fun k hk => absurd hk (by omega), fun p hp => by (cases hp), fun _ => rfl, Nat.le_refl _, by unfold maxLen; omega, fun p hp => by (cases hp)⟩
  · refine ⟨some ⟨g, 0, none⟩, cap, rfl, fun i hi => ⟨g, 0, rfl, ?_⟩, fun p hp => by (cases hp; exact h2), fun h => by (cases h), h4, h5, fun p hp => by (cases hp; rfl)⟩
    have hi' : i < xs.length := by simp only [List.length_map] at hlen; omega
    have := hc g rfl i (.int .i64 (xs.getD i 0)) (by simp [hi'])
    rw [add_base] at this
    rw [Nat.zero_add]
    exact this

theorem rowIs_setCells {b : Nat} {t : TypeId} {n : Nat} : ∀ (vs : List Value) (o : Nat) (w : World) (f : Nat → Value), w.rowIs b t n f → (w.setCells b o vs).rowIs b t n (fun i => if o ≤ i ∧ i < o + vs.length then vs.getD (i - o) (f i) else f i)
  | [], o, w, f, h => h.congr (fun i _ => by rw [if_neg (by simp)])
  | v :: r, o, w, f, h => by
    have := rowIs_setCells r (o + 1) _ _ (World.rowIs.set h o v)
    refine World.rowIs.congr this (fun i _ => ?_)
    by_cases h1 : i = o
    · subst h1
      rw [if_neg (by omega), if_pos rfl, if_pos (by simp)]
      simp
    · by_cases h2 : o + 1 ≤ i ∧ i < o + 1 + r.length
      · have h3 : o ≤ i ∧ i < o + (v :: r).length := by simp only [List.length_cons]; omega
        simp only [if_pos h2, if_neg h1, if_pos h3]
        rw [show i - o = (i - (o + 1)) + 1 from by omega]
        rfl
      · rw [if_neg h2, if_neg h1, if_neg (by simp; omega)]
theorem Fr.setCells {S : Nat → Prop} {a : World} {g : Nat} (hg : S g) : ∀ (vs : List Value) (o : Nat) {w : World}, Fr S a w → Fr S a (w.setCells g o vs)
  | [], _, _, h => h
  | v :: r, o, _, h => Fr.setCells hg r (o + 1) (h.setCell (p := ⟨g, o, none⟩) (.inl hg) v)
theorem own_row {w : World} {base g : Nat} {e : TypeId} {size n cap : Nat} {xs : List Value} (h : w.ownsRow base e size (.slice (some ⟨g, 0, none⟩) n cap) n xs) :
    n ≤ cap ∧ cap ≤ maxLen ∧ base ≤ g ∧ ∃ f : Nat → Value, w.rowIs g e (cap * size) f ∧ ∀ k, k < n * size → xs[k]? = some (f k) := by
  rcases h.2 with ⟨h1, _⟩ | ⟨g', cap', cur, h1, h2, h3, h4, h5, h6, h7⟩
  · cases h1
  · cases h1
    refine ⟨h4, h5, h2, fun i => cur.getD i (.int .i64 0), ⟨cur, h3, h6, fun i hi => ?_⟩, fun k hk => ?_⟩
    · simp [Array.getD, h6, hi]
    · have hk2 : k < cur.size := by rw [h6]; exact Nat.lt_of_lt_of_le hk (Nat.mul_le_mul_right _ h4)
      rw [← h7, List.getElem?_take, if_pos hk]
      simp [Array.getD, hk2]
theorem row_own {w : World} {base g : Nat} {e : TypeId} {size n cap : Nat} {xs : List Value} {f : Nat → Value} (h : w.rowIs g e (cap * size) f) (hg : base ≤ g) (hn : n ≤ cap) (hc : cap ≤ maxLen) (hl : xs.length = n * size) (hx : ∀ k, k < n * size → xs[k]? = some (f k)) :
    w.ownsRow base e size (.slice (some ⟨g, 0, none⟩) n cap) n xs := by
  obtain ⟨cur, h3, h6, h7⟩ := h
  refine ⟨hl, .inr ⟨g, cap, cur, rfl, hg, h3, hn, hc, h6, ?_⟩⟩
  apply List.ext_getElem?
  intro k
  by_cases hk : k < n * size
  · rw [List.getElem?_take, if_pos hk, hx k hk]
    have := h7 k (Nat.lt_of_lt_of_le hk (Nat.mul_le_mul_right _ hn))
    simpa using this
  · rw [List.getElem?_eq_none (by simp; omega), List.getElem?_eq_none (by omega)]

end Go.Proofs.YtglngngcohcmfaaDoor
