/- slices.SortFunc of changes of the call's own. -/
import Derived.Test.YtdkkeaegmmepfaaLs8
namespace Go.Proofs.Ytdkkeaegmmepfaa
open Go.RowKit Go.Deep

theorem holds_id {w : World} {g : Nat} {cur : Array Value} {e : TypeId} {F : Array Value} (hb : w.heap[g]? = some (.cells cur e (0, 0))) (ht : cur.toList.take F.size = F.toList) : Go.Sort.Holds id w g 0 F := by
  intro j hj
  refine ⟨?_, by simp [World.frozen?, hb]⟩
  have h1 : (cur.toList.take F.size)[j]? = F.toList[j]? := by rw [ht]
  rw [List.getElem?_take_of_lt hj] at h1
  simp only [World.cell?, hb, Nat.zero_add]
  simp only [Option.isSome_none, Bool.false_eq_true, if_false]
  rw [← Array.getElem?_toList, h1]
  simp [hj]
theorem heap_put {w : World} {g n : Nat} {os : Array Obj} {cur : Array Value} {e : TypeId} {fr : Nat × Nat} (F : Array Value) (hb : w.heap[g]? = some (.cells cur e fr)) :
    (Go.Sort.grow (Go.Sort.putRow id (Go.Sort.ahead w n) g 0 F) os).heap[g]? = some (.cells (Go.Sort.putCells id 0 F cur) e fr) := by
  have hg : g < w.heap.size := (Array.getElem?_eq_some_iff.1 hb).1
  rw [Go.Sort.heap_grow_old _ _ (by simpa using hg)]
  simp [Go.Sort.putRow, Go.Sort.mapBlock, Go.Sort.ahead, Array.getElem?_modify, hb, Go.Sort.onCells]
theorem take_put (cur F : Array Value) (h : F.size ≤ cur.size) : (Go.Sort.putCells id 0 F cur).toList.take F.size = F.toList := by
  apply List.ext_getElem?
  intro j
  by_cases hj : j < F.size
  · rw [List.getElem?_take_of_lt hj, Array.getElem?_toList]
    simp [Go.Sort.putCells, hj, show j < cur.size by omega]
  · rw [List.getElem?_take_eq_none (by omega), List.getElem?_eq_none (by simp; omega)]
theorem fr_put {w : World} {blk n : Nat} {F : Array Value} {os : Array Obj} : Fr (fun i => i = blk) w (Go.Sort.grow (Go.Sort.putRow id (Go.Sort.ahead w n) blk 0 F) os) := by
  refine ⟨rfl, rfl, rfl, by simp, fun k hk hne => ?_⟩
  rw [Go.Sort.heap_grow_old _ _ (by simpa using hk)]
  have : blk ≠ k := fun e => hne e.symm
  simp [Go.Sort.putRow, Go.Sort.mapBlock, Go.Sort.ahead, Array.getElem?_modify, this]
theorem ok_list : ∀ L : List Tb.Ch, (∀ c ∈ L, Tb.ok c.p) → ∃ D : List OkCh, D.length = L.length ∧ D.map (·.1) = L
  | [], _ => ⟨[], rfl, rfl⟩
  | c :: L, h => by
    obtain ⟨D, h1, h2⟩ := ok_list L (fun x hx => h x (List.mem_cons_of_mem _ hx))
    refine ⟨(⟨c, h c (List.mem_cons_self ..)⟩ : OkCh) :: D, by rw [List.length_cons, List.length_cons, h1], ?_⟩
    rw [List.map_cons, h2]
def SortCPost (base : Nat) (v : Value) (L : List Tb.Ch) (w : World) (e : Ending) (w' : World) : Prop :=
  e = .returned (.tuple #[]) ∧ ∃ M : List Tb.Ch, M.Perm L ∧ M.Pairwise (fun a b => ¬ Tb.ordN b.p - Tb.ordN a.p < 0) ∧ SlC w' base v M ∧ Fr (fun i => v.ownBlock = some i) w w'
theorem SortC_any (base : Nat) (v : Value) (L : List Tb.Ch) (w : World) (hl : L.length ≤ 1000) (hp : 0 < L.length) (hok : ∀ c ∈ L, Tb.ok c.p) (h : SlC w base v L) :
    Calls Try.prog 49 #[v, .func (.func 50) #[] #[]] w (SortCPost base v L w) := by
  rcases h.2 with ⟨h1, h2⟩ | ⟨g, cap, cur, h1, h2, h3, h4, h5, h6, h7⟩
  · omega
  · subst h1
    have hg : g < w.heap.size := (Array.getElem?_eq_some_iff.1 h3).1
    obtain ⟨D, hD1, hD2⟩ := ok_list L hok
    obtain ⟨d, hds, hdl⟩ : ∃ d : Array OkCh, d.size = L.length ∧ d.toList.map (·.1) = L := ⟨D.toArray, by rw [← hD1]; rfl, hD2⟩
    have hF : (Go.Sort.flatK encCh 4 d).size = L.length * 4 := by rw [Go.Sort.size_flatK, hds]
    have hH : Go.Sort.HoldsK encCh 4 w g 0 d := holds_id h3 (by rw [hF, flat_ch, hdl]; exact h7)
    have eg : ∀ args w, (callFunc 50 args).run Try.prog w = .ok (.enter 50 args) w := enters_of Try.func50 (by kernel_rfl) rfl
    have hcon := Go.Proofs.AnyQ.slices_SortFunc Try.sortCh 4 Try.isAgg62 Try.sizeOf62 encCh (fun _ => rfl) (fun x v hv => by
      simp [encCh, ch4] at hv
      rcases hv with rfl | rfl | rfl | rfl <;> rfl) cmpCh swo_ch 50 #[] g 0 cap d w eg (cmp_lays g 0 d.size w) hH hg (by rw [hds]; omega)
    rw [hds] at hcon
    refine Calls.mono hcon ?_
    rintro e w' ⟨rfl, d', n, os, ⟨hs1, _, hs2⟩, hsort, rfl⟩
    have hs : d'.size = L.length := hs1.trans hds
    have hperm : d'.toList.Perm d.toList := by
      have e1 : (d'.extract 0 L.length) = d' := by rw [← hs]; simp
      have e2 : (d.extract 0 L.length) = d := by rw [← hds]; simp
      rw [e1, e2] at hs2
      exact hs2
    have hML : (d'.toList.map (·.1)).length = L.length := by simp [hs]
    refine ⟨rfl, d'.toList.map (·.1), ?_, ?_, ?_, ?_⟩
    · rw [← hdl]
      exact hperm.map _
    · rw [List.pairwise_iff_getElem]
      intro i j hi hj hij
      have hj' : j < d'.size := by simpa using hj
      have hi' : i < d'.size := by omega
      have hh := hsort i j (Nat.zero_le _) hij (by omega)
      have hh : ¬ cmpCh d'[j]! d'[i]! < 0 := of_decide_eq_false hh
      rw [getElem!_pos d' j hj', getElem!_pos d' i hi'] at hh
      simp only [List.getElem_map, Array.getElem_toList]
      exact hh
    · have hF' : (Go.Sort.flatK encCh 4 d').size = L.length * 4 := by rw [Go.Sort.size_flatK, hs]
      have hcs : L.length * 4 ≤ cur.size := by rw [h6]; exact Nat.mul_le_mul_right _ h4
      unfold SlC
      rw [hML]
      refine ⟨by rw [List.length_map, chI_len, hML], .inr ⟨g, cap, _, rfl, h2, heap_put (Go.Sort.flatK encCh 4 d') h3, h4, h5, by simp [Go.Sort.putCells, h6], ?_⟩⟩
      have := take_put cur (Go.Sort.flatK encCh 4 d') (by rw [hF']; exact hcs)
      rw [hF', flat_ch] at this
      exact this
    · exact (fr_put (w := w) (n := n) (os := os)).mono (fun i _ hi => by rw [hi]; rfl)
end Go.Proofs.Ytdkkeaegmmepfaa
