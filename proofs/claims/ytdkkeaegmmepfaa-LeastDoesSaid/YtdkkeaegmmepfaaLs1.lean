/- Walks: slices.Clone, slices.Sort at integers; least.wish. -/
import Derived.Test.YtdkkeaegmmepfaaTr4
import Derived.Test.YtdkkeaegmmepfaaKitC
import Derived.Test.YtdkkeaegmmepfaaLsMath
import Derived.Test.YtdkkeaegmmepfaaLsShelf
import Derived.Sort.OwnSortedInts
namespace Go.Proofs.Ytdkkeaegmmepfaa
open Go.RowKit Go.Deep

def CloneIPost (xs : List Int) (w : World) (e : Ending) (w' : World) : Prop := ∃ v, e = .returned v ∧ Sl w' w.heap.size v xs ∧ Fr NoB w w'
theorem Sl.any1 {w : World} {base : Nat} {v : Value} {xs : List Int} (h : Sl w base v xs) (hp : 0 < xs.length) : ∃ g c, v = .slice (some ⟨g, 0, none⟩) xs.length c ∧ base ≤ g ∧ g < w.heap.size ∧ ∀ i, i < xs.length → w.cell? ⟨g, i, none⟩ = some (.int .i64 (xs.getD i 0)) := by
  rcases h.shape with ⟨_, rfl⟩ | ⟨g, c, h1, h2, h3, h4⟩
  · cases hp
  · exact ⟨g, c, h1, h2, h3, h4⟩
theorem ints_news {w : World} {g : Nat} {xs : List Int} (h : ∀ i, i < xs.length → w.cell? ⟨g, i, none⟩ = some (.int .i64 (xs.getD i 0))) : ∀ (j : Nat) (u : Value), (xs.map (Value.int .i64))[j]? = some u → w.cell? ((⟨g, 0, none⟩ : Addr).add j) = some u := by
  intro j u hj
  rw [List.getElem?_map] at hj
  obtain ⟨x, hx, rfl⟩ := Option.map_eq_some_iff.1 hj
  have hl := (List.getElem?_eq_some_iff.1 hx).1
  rw [add_base, h j hl, List.getD_eq_getElem?_getD, hx]
  rfl
set_option maxRecDepth 100000 in
set_option maxHeartbeats 4000000 in
/-- A clone of integers, one at least. -/
theorem CloneI_any (base : Nat) (v : Value) (xs : List Int) (w : World) (hl : xs.length ≤ 1000) (hp : 0 < xs.length) (h : Sl w base v xs) :
    Calls Try.prog 69 #[v] w (CloneIPost xs w) := by
  obtain ⟨g, c, rfl, _, _, hc⟩ := h.any1 hp
  have hF := (Fr.refl NoB w).alloc (.cells #[] 3)
  have hN : ∀ (j : Nat) (u : Value), (xs.map (Value.int .i64))[j]? = some u → (w.alloc (.cells #[] 3)).cell? ((⟨g, 0, none⟩ : Addr).add j) = some u := ints_news (fun i hi => cell_fr' hF (hc i hi) (fun h => h))
  have hown : (w.alloc (.cells #[] 3)).ownsRow w.heap.size 3 1 (.slice (some ⟨w.heap.size, 0, none⟩) 0 0) 0 [] := row_own (f := fun _ => .int .i64 0) (cap := 0) (World.rowIs_alloc w #[] 3 _ (by intro i hi; simp at hi)) (Nat.le_refl _) (Nat.le_refl _) (by unfold maxLen; omega) rfl (by intro k hk; omega)
  have hll : (xs.map (Value.int .i64)).length = xs.length * 1 := by rw [List.length_map, Nat.mul_one]
  have hq := fun w => Lib.run_eql_slice_nil (P := Try.prog) w 43 3 (some ⟨g, 0, none⟩) xs.length c 0 0 Try.underlying43
  dsimp only [Option.isNone] at hq
  have HN := Lib.hid hN; clear hN; have HO := Lib.hid hown; clear hown; have HL := Lib.hid hll; clear hll
  clear h hF hc
  go_enter Try.func69, Try.ntmps69
  go_wp2_with (at_builtin; refine app_own rfl _ _ 43 3 1 8 _ rfl Try.underlying43 Try.info3 rfl (by omega) w.heap.size (.slice (some ⟨w.heap.size, 0, none⟩) 0 0) 0 [] rfl HO.out ⟨g, 0, none⟩ xs.length c (xs.map (Value.int .i64)) rfl HL.out HN.out (ints_one _) (by omega) (by omega) (by simp) ?_; intro v' w1 hv hf)
  go_ret
  refine ⟨v', rfl, ?_, ?_⟩
  · have hv := hv
    rw [Nat.zero_add, List.nil_append] at hv
    exact hv
  · exact ((Fr.refl NoB w).alloc _).trans' hf (fun i hi h => by cases h; exact absurd hi (Nat.lt_irrefl _))
theorem heap_sort {w : World} {blk off n : Nat} {d : Array Int} {os : Array Obj} : Fr (fun i => i = blk) w (Go.Sort.grow (Go.Sort.putRow (Value.int .i64) (Go.Sort.ahead w n) blk off d) os) := by
  refine ⟨rfl, rfl, rfl, by simp, fun k hk hne => ?_⟩
  rw [Go.Sort.heap_grow_old _ _ (by simpa using hk)]
  have : blk ≠ k := fun e => hne e.symm
  simp [Go.Sort.putRow, Go.Sort.mapBlock, Go.Sort.ahead, Array.getElem?_modify, this]
def SortIPost (base : Nat) (v : Value) (xs : List Int) (w : World) (e : Ending) (w' : World) : Prop := e = .returned (.tuple #[]) ∧ ∃ ys : List Int, ys.Perm xs ∧ ys.Pairwise (· ≤ ·) ∧ Sl w' base v ys ∧ Fr (fun i => v.ownBlock = some i) w w'
/-- slices.Sort of integers of the call's own. -/
theorem SortI_any (base : Nat) (v : Value) (xs : List Int) (w : World) (hl : xs.length ≤ 1000) (hp : 0 < xs.length) (h : Sl w base v xs) :
    Calls Try.prog 70 #[v] w (SortIPost base v xs w) := by
  rcases h.2 with ⟨h1, h2⟩ | ⟨g, cap, cur, h1, h2, h3, h4, h5, h6, h7⟩
  · omega
  · subst h1
    rw [Nat.mul_one] at h7
    have hg : g < w.heap.size := (Array.getElem?_eq_some_iff.1 h3).1
    refine (LsShelf.sort_ints g 0 cap xs w (Go.holds_of_blockI h3 h7) hg (by omega)).mono ?_
    rintro e w' ⟨rfl, n, os, rfl⟩
    have hperm := List.mergeSort_perm xs (fun x y => decide (x ≤ y))
    have hsort := List.pairwise_mergeSort (le := fun x y : Int => decide (x ≤ y)) (fun a b c h1 h2 => by simp at *; omega) (fun a b => by simp; omega) xs
    refine ⟨rfl, _, hperm, hsort.imp (fun {a b} k => by simpa using k), ?_, ?_⟩
    · have hlen : (xs.mergeSort fun x y => decide (x ≤ y)).length = xs.length := hperm.length_eq
      have := Go.ownsRow_sortedI (n := n) (os := os) hlen h2 h3 h4 h5 h6
      unfold Sl
      rw [hlen]
      exact this
    · exact (heap_sort (w := w) (n := n) (os := os)).mono (fun i _ hi => by rw [hi]; rfl)
end Go.Proofs.Ytdkkeaegmmepfaa
