/- Walks: order, Diff's comparing; slices.SortFunc of changes. -/
import Derived.Test.YtdkkeaegmmepfaaLs7
import Derived.Test.YtdkkeaegmmepfaaLsMath
namespace Go.Proofs.Ytdkkeaegmmepfaa
open Go.RowKit Go.Deep

def GrowPost (v : Value) (w : World) (e : Ending) (w' : World) : Prop := e = .returned v ∧ ∃ q os, w' = Go.Sort.grow (w.drewN q) os
theorem grow_drewN (w : World) (os : Array Obj) (n : Nat) : (Go.Sort.grow w os).drewN n = Go.Sort.grow (w.drewN n) os := rfl
theorem grow_trans {w w1 w2 : World} (h1 : ∃ q os, w1 = Go.Sort.grow (w.drewN q) os) (h2 : ∃ q os, w2 = Go.Sort.grow (w1.drewN q) os) : ∃ q os, w2 = Go.Sort.grow (w.drewN q) os := by
  obtain ⟨q1, o1, rfl⟩ := h1
  obtain ⟨q2, o2, rfl⟩ := h2
  refine ⟨q1 + q2, o1 ++ o2, ?_⟩
  rw [grow_drewN, Go.Sort.grow_grow, World.drewN_drewN]
theorem grow_alloc (w : World) (o : Obj) : ∃ q os, w.alloc o = Go.Sort.grow (w.drewN q) os := ⟨0, #[o], by rw [Go.Sort.alloc_eq_grow]; rfl⟩
theorem grow_drew {w w1 : World} (h : ∃ q os, w1 = Go.Sort.grow (w.drewN q) os) : ∃ q os, w1.drew = Go.Sort.grow (w.drewN q) os := grow_trans h ⟨1, #[], by rw [Go.Sort.grow_empty]; rfl⟩
theorem grow_fr {w w1 : World} (h : ∃ q os, w1 = Go.Sort.grow (w.drewN q) os) : Fr NoB w w1 := by
  obtain ⟨q, os, rfl⟩ := h
  exact ⟨rfl, rfl, rfl, by simp [Go.Sort.grow, World.drewN], fun k hk _ => by rw [Go.Sort.heap_grow_old _ _ (by simpa [World.drewN] using hk)]; rfl⟩
set_option maxRecDepth 100000 in
set_option maxHeartbeats 4000000 in
theorem order_any (l b : Int) (w : World) (h : Tb.ok ⟨l, b⟩) : Calls Try.prog 51 #[.agg #[.int .i64 l, .int .i64 b]] w (GrowPost (.int .i64 (Tb.ordN ⟨l, b⟩)) w) := by
  have h0 : 0 ≤ 8 - l := by have := h.2.1; dsimp only at this; omega
  have hf := fst_wrap h
  have hb := Tb.fst_ge h
  have hb2 := (Tb.fst_le h).2
  have hb1 := (Tb.fst_le h).1
  have hl := h.1
  have hl8 := h.2.1
  dsimp only at hf hl hl8
  unfold Tb.ordN
  dsimp only
  generalize Tb.fst ⟨l, b⟩ = f at *
  have hw1 := IntWalk.i64_in (8 - l) (by omega)
  have hw2 := IntWalk.i64_in (f * 9) (by omega)
  have hw3 := IntWalk.i64_in (f * 9 + l) (by omega)
  clear h
  go_enter Try.func51, Try.ntmps51
  go_wp2
  go_quiet (fail)
  go_wp2
  go_ret
  exact ⟨rfl, grow_trans (grow_alloc _ _) ⟨_, #[], by rw [Go.Sort.grow_empty]⟩⟩
/-- A change whose prefix is one. -/
abbrev OkCh : Type := {c : Tb.Ch // Tb.ok c.p}
instance : Inhabited OkCh := ⟨⟨⟨⟨0, 0⟩, 0, 0⟩, by show Tb.ok ⟨0, 0⟩; decide⟩⟩
def ch4 (c : Tb.Ch) : List Value := [.int .i64 c.p.len, .int .i64 c.p.bits, .int .i64 c.old, .int .i64 c.new]
def encCh (x : OkCh) : List Value := ch4 x.1
def cmpCh (x y : OkCh) : Int := Tb.ordN x.1.p - Tb.ordN y.1.p
theorem box4 (w : World) (a b c d : Value) (t : TypeId) : (w.alloc (.cells #[a, b, c, d] t)).cell? ⟨w.heap.size, 0, none⟩ = some a ∧ (w.alloc (.cells #[a, b, c, d] t)).cell? ⟨w.heap.size, 1, none⟩ = some b := by
  constructor <;> simp
theorem ordN_in {p : Tb.Pf} (h : Tb.ok p) : 0 ≤ Tb.ordN p ∧ Tb.ordN p ≤ 2400 := by
  have := Tb.fst_ge h
  have := Tb.fst_le h
  have := h.1
  have := h.2.1
  unfold Tb.ordN
  omega
set_option maxRecDepth 100000 in
set_option maxHeartbeats 4000000 in
theorem cmpC_any (l b o n m c q r : Int) (w : World) (h : Tb.ok ⟨l, b⟩) (h' : Tb.ok ⟨m, c⟩) :
    Calls Try.prog 50 #[.agg #[.int .i64 l, .int .i64 b, .int .i64 o, .int .i64 n], .agg #[.int .i64 m, .int .i64 c, .int .i64 q, .int .i64 r]] w (GrowPost (.int .i64 (Tb.ordN ⟨l, b⟩ - Tb.ordN ⟨m, c⟩)) w) := by
  have ho1 := fun W => order_any l b W h
  have ho2 := fun W => order_any m c W h'
  have hn1 := ordN_in h
  have hn2 := ordN_in h'
  generalize Tb.ordN ⟨l, b⟩ = x at *
  generalize Tb.ordN ⟨m, c⟩ = y at *
  have hw := IntWalk.i64_in (x - y) (by omega)
  have HO1 := Lib.hid ho1; clear ho1; have HO2 := Lib.hid ho2; clear ho2
  clear h h'
  go_enter Try.func50, Try.ntmps50
  go_upto_region 1 with fail
  refine wp_name fun w1 hw1 => ?_
  have hg : ∃ q os, w1 = Go.Sort.grow (w.drewN q) os := by rw [hw1]; exact grow_trans (grow_alloc _ _) (grow_alloc _ _)
  have c0 : w1.cell? ⟨w.heap.size, 0, none⟩ = some (.int .i64 l) := by rw [hw1]; simp
  have c1 : w1.cell? ⟨w.heap.size, 1, none⟩ = some (.int .i64 b) := by rw [hw1]; simp
  have d0 : w1.cell? ⟨w.heap.size + 1, 0, none⟩ = some (.int .i64 m) := by rw [hw1]; simp
  have d1 : w1.cell? ⟨w.heap.size + 1, 1, none⟩ = some (.int .i64 c) := by rw [hw1]; simp
  clear hw1
  have HG1 := Lib.hid (grow_drew hg)
  clear hg
  (refine wp_region_held_drew (S := (fun W => W.cell? ⟨w.heap.size, 0, none⟩ = some (.int .i64 l) ∧ W.cell? ⟨w.heap.size, 1, none⟩ = some (.int .i64 b) ∧ W.cell? ⟨w.heap.size + 1, 0, none⟩ = some (.int .i64 m) ∧ W.cell? ⟨w.heap.size + 1, 1, none⟩ = some (.int .i64 c))) (by kernel_rfl) ⟨c0, c1, d0, d1⟩ (fun hHeld => ?_))
  (refine wpAnyH_take (i := 0) (v := ?_) (by simp only [List.getElem?_toArray, List.getElem?_cons_zero]; rfl) (by kernel_rfl) (by kernel_rfl) (by kernel_rfl) (by exact fun _ _ _ h => h) (Or.inl ⟨by rfl, ?_⟩) hHeld ?_; rotate_left; (focus (intro w hSw; (try dsimp only at hSw); go_simp; all_goals with_reducible rfl)); (try simp only [Act.put, List.setIfInBounds_toArray, List.set_cons_zero, List.set_cons_succ])); (refine wpAnyH_take (i := 1) (v := ?_) (by simp only [List.getElem?_toArray, List.getElem?_cons_succ, List.getElem?_cons_zero]; rfl) (by kernel_rfl) (by kernel_rfl) (by kernel_rfl) (by exact fun _ _ _ h => h) (Or.inl ⟨by rfl, ?_⟩) hHeld ?_; rotate_left; (focus (intro w hSw; (try dsimp only at hSw); go_simp; all_goals with_reducible rfl)); (try simp only [Act.put, List.setIfInBounds_toArray, List.set_cons_zero, List.set_cons_succ])); (refine wpAnyH_take (i := 3) (v := ?_) (by simp only [List.getElem?_toArray, List.getElem?_cons_succ, List.getElem?_cons_zero]; rfl) (by kernel_rfl) (by kernel_rfl) (by kernel_rfl) (by exact fun _ _ _ h => h) (Or.inl ⟨by rfl, ?_⟩) hHeld ?_; rotate_left; (focus (intro w hSw; (try dsimp only at hSw); go_simp; all_goals with_reducible rfl)); (try simp only [Act.put, List.setIfInBounds_toArray, List.set_cons_zero, List.set_cons_succ])); (refine wpAnyH_take (i := 4) (v := ?_) (by simp only [List.getElem?_toArray, List.getElem?_cons_succ, List.getElem?_cons_zero]; rfl) (by kernel_rfl) (by kernel_rfl) (by kernel_rfl) (by exact fun _ _ _ h => h) (Or.inl ⟨by rfl, ?_⟩) hHeld ?_; rotate_left; (focus (intro w hSw; (try dsimp only at hSw); go_simp; all_goals with_reducible rfl)); (try simp only [Act.put, List.setIfInBounds_toArray, List.set_cons_zero, List.set_cons_succ]))
  (refine wpAnyH_ready (rs := [2]) (by kernel_rfl) (by simp) ?_; refine AllReadyH.cons (by simp only [List.getElem?_toArray, List.getElem?_cons_succ, List.getElem?_cons_zero]; rfl) (fun K hK => ?_) AllReadyH.nil; go_simp); (refine (HO1.out _).mono ?_; rintro e w2 ⟨rfl, hg⟩; have hf := grow_fr hg; replace c0 := cell_fr' hf c0 (fun h => h); replace c1 := cell_fr' hf c1 (fun h => h); replace d0 := cell_fr' hf d0 (fun h => h); replace d1 := cell_fr' hf d1 (fun h => h); have HG2 := Lib.hid (grow_trans HG1.out hg); clear hg hf); (try go_wp2_with fail); (refine hK.out _ _ ⟨c0, c1, d0, d1⟩ (fun hHeld => ?_)); clear hK K; (try simp only [Act.put, List.setIfInBounds_toArray, List.set_cons_zero, List.set_cons_succ])
  (refine wpAnyH_ready (rs := [5]) (by kernel_rfl) (by simp) ?_; refine AllReadyH.cons (by simp only [List.getElem?_toArray, List.getElem?_cons_succ, List.getElem?_cons_zero]; rfl) (fun K hK => ?_) AllReadyH.nil; go_simp); (refine (HO2.out _).mono ?_; rintro e w3 ⟨rfl, hg⟩; have hf := grow_fr hg; replace c0 := cell_fr' hf c0 (fun h => h); replace c1 := cell_fr' hf c1 (fun h => h); replace d0 := cell_fr' hf d0 (fun h => h); replace d1 := cell_fr' hf d1 (fun h => h); have HG3 := Lib.hid (grow_trans HG2.out hg); clear hg hf); (try go_wp2_with fail); (refine hK.out _ _ ⟨c0, c1, d0, d1⟩ (fun hHeld => ?_)); clear hK K; (try simp only [Act.put, List.setIfInBounds_toArray, List.set_cons_zero, List.set_cons_succ])
  (refine wpAnyH_take (i := 6) (v := ?_) (by simp only [List.getElem?_toArray, List.getElem?_cons_succ, List.getElem?_cons_zero]; rfl) (by kernel_rfl) (by kernel_rfl) (by kernel_rfl) (by exact fun _ _ _ h => h) (Or.inl ⟨by rfl, ?_⟩) hHeld ?_; rotate_left; (focus (intro w hSw; (try dsimp only at hSw); go_simp; all_goals with_reducible rfl)); (try simp only [Act.put, List.setIfInBounds_toArray, List.set_cons_zero, List.set_cons_succ])); (refine wpAnyH_take (i := 7) (v := ?_) (by simp only [List.getElem?_toArray, List.getElem?_cons_succ, List.getElem?_cons_zero]; rfl) (by kernel_rfl) (by kernel_rfl) (by kernel_rfl) (by exact fun _ _ _ h => h) (Or.inl ⟨by rfl, ?_⟩) hHeld ?_; rotate_left; (focus (intro w hSw; (try dsimp only at hSw); go_simp; all_goals with_reducible rfl)); (try simp only [Act.put, List.setIfInBounds_toArray, List.set_cons_zero, List.set_cons_succ]))
  (refine wpAnyH_done (by kernel_rfl) ?_ _)
  go_wp2
  go_ret
  exact ⟨rfl, HG3.out⟩
theorem cmp_lays (blk off size : Nat) (w : World) : Go.Proofs.CmpLays Try.prog 50 #[] encCh 4 cmpCh blk off size w := fun _ _ _ _ x y =>
  (cmpC_any x.1.p.len x.1.p.bits x.1.old x.1.new y.1.p.len y.1.p.bits y.1.old y.1.new _ x.2 y.2).mono fun _ _ h => h
theorem swo_ch : Go.Sort.SWO (Go.Proofs.ltOf cmpCh) where
  irrefl x := decide_eq_false (by show ¬ cmpCh x x < 0; unfold cmpCh; omega)
  trans x y z h1 h2 := by
    have h1 : cmpCh x y < 0 := of_decide_eq_true h1
    have h2 : cmpCh y z < 0 := of_decide_eq_true h2
    exact decide_eq_true (by unfold cmpCh at *; omega)
  ntrans x y z h1 h2 := by
    have h1 : ¬ cmpCh x y < 0 := of_decide_eq_false h1
    have h2 : ¬ cmpCh y z < 0 := of_decide_eq_false h2
    exact decide_eq_false (by unfold cmpCh at *; omega)
/-- The cells of changes. -/
def chI (L : List Tb.Ch) : List Int := L.flatMap fun c => [c.p.len, c.p.bits, c.old, c.new]
theorem chI_len : ∀ L : List Tb.Ch, (chI L).length = L.length * 4
  | [] => rfl
  | c :: L => by
    have := chI_len L
    simp only [chI, List.flatMap_cons, List.length_append, List.length_cons, List.length_nil] at this ⊢
    omega
theorem chI_app (A B : List Tb.Ch) : chI (A ++ B) = chI A ++ chI B := by simp [chI]
theorem chI_at : ∀ (L : List Tb.Ch) (k : Nat), k < L.length → (chI L).getD (k * 4) 0 = (Tb.nthC L k).p.len ∧ (chI L).getD (k * 4 + 1) 0 = (Tb.nthC L k).p.bits ∧ (chI L).getD (k * 4 + 2) 0 = (Tb.nthC L k).old ∧ (chI L).getD (k * 4 + 3) 0 = (Tb.nthC L k).new
  | [], k, h => by simp at h
  | c :: L, 0, _ => ⟨rfl, rfl, rfl, rfl⟩
  | c :: L, k + 1, h => by
    have := chI_at L k (by simpa using h)
    rw [show (k + 1) * 4 = k * 4 + 4 from by omega]
    exact this
/-- Changes of the call's own. -/
def SlC (w : World) (base : Nat) (v : Value) (L : List Tb.Ch) : Prop := w.ownsRow base 62 4 v L.length ((chI L).map (Value.int .i64))
theorem flat_ch (d : Array OkCh) : (Go.Sort.flatK encCh 4 d).toList = (chI (d.toList.map (·.1))).map (Value.int .i64) := by
  apply List.ext_getElem
  · simp [chI_len]
  · intro t h1 h2
    have ht : t < d.size * 4 := by simpa using h1
    have hk : t / 4 < d.size := by omega
    have hk' : t / 4 < (d.toList.map (·.1)).length := by simpa using hk
    obtain ⟨e0, e1, e2, e3⟩ := chI_at (d.toList.map (·.1)) (t / 4) hk'
    have hn : Tb.nthC (d.toList.map (·.1)) (t / 4) = (d[t / 4]'hk).1 := by
      unfold Tb.nthC
      rw [List.getD_eq_getElem?_getD, List.getElem?_eq_getElem hk']
      simp
    rw [hn] at e0 e1 e2 e3
    have hg : ∀ i, i < d.size * 4 → (chI (d.toList.map (·.1)))[i]? = some ((chI (d.toList.map (·.1))).getD i 0) := fun i hi => by
      rw [List.getD_eq_getElem?_getD, List.getElem?_eq_getElem (by rw [chI_len]; simpa using hi)]
      rfl
    have hl : ((chI (d.toList.map (·.1))).map (Value.int .i64))[t]? = some (.int .i64 ((chI (d.toList.map (·.1))).getD t 0)) := by rw [List.getElem?_map, hg t ht]; rfl
    have hr : (Go.Sort.flatK encCh 4 d).toList[t]? = some ((encCh (d[t / 4]'hk))[t % 4]!) := by
      rw [Array.getElem?_toList]
      simp [Go.Sort.flatK, ht, hk]
    rw [List.getElem?_eq_getElem h1] at hr
    rw [List.getElem?_eq_getElem h2] at hl
    rw [Option.some.inj hr, Option.some.inj hl]
    have h4 : t % 4 = 0 ∨ t % 4 = 1 ∨ t % 4 = 2 ∨ t % 4 = 3 := by omega
    rcases h4 with h4 | h4 | h4 | h4
    · have : t = t / 4 * 4 := by omega
      rw [h4]
      conv => rhs; rw [this, e0]
      rfl
    · have : t = t / 4 * 4 + 1 := by omega
      rw [h4]
      conv => rhs; rw [this, e1]
      rfl
    · have : t = t / 4 * 4 + 2 := by omega
      rw [h4]
      conv => rhs; rw [this, e2]
      rfl
    · have : t = t / 4 * 4 + 3 := by omega
      rw [h4]
      conv => rhs; rw [this, e3]
      rfl
end Go.Proofs.Ytdkkeaegmmepfaa
