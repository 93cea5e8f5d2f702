/- Walks: trie.Of, Leaves, Size. -/
import Derived.Test.YteedndapbfihaaaGreatB29
import Derived.Test.YteedndapbfihaaaGreatB28
import Derived.Shelf.Sort.Plain
import Derived.Test.YteedndapbfihaaaGreatProg
import Derived.Test.YteedndapbfihaaaGreatB1
import Derived.Test.YteedndapbfihaaaGreatB9
import Derived.Sort.OwnSortedInts
namespace Go.Proofs.YteedndapbfihaaaGreat
open Go.RowKit Go.Deep

theorem allOf_get (L : List Tb.Rt) {n : Nat} (h : n < 256) : (Tb.allOf L).getD n 0 = Tb.look L n := by
  unfold Tb.allOf
  rw [List.getD_eq_getElem?_getD, List.getElem?_map, List.getElem?_range h]
  rfl
theorem rdl_row {w : World} {g : Nat} {hs : List Int} {f : Nat → Int} (h : w.rowIs g 3 256 (I f)) (hl : hs.length = 256) (hf : ∀ n, n < 256 → hs.getD n 0 = f n) : RdL w (some ⟨g, 0, none⟩) hs := by
  intro k hk
  rw [hl] at hk
  obtain ⟨b, o, e, c⟩ := Rd.row h k hk
  exact ⟨b, o, e, by dsimp only; rw [hf k hk]; exact c⟩
theorem fit_all {hs : List Int} (hl : hs.length = 256) : Tb.Fit 8 ⟨0, 0⟩ hs := ⟨by decide, by decide, by rw [hl]; decide⟩
set_option maxRecDepth 100000 in
set_option maxHeartbeats 4000000 in
theorem TOf_any (t : Nat) (v : Value) (L : List Tb.Rt) (w : World) (hl : L.length ≤ 1000) (hw : Tb.Wf L) (h : TAt w t v L) :
    Calls Tryz.prog 78 #[.pointer (some ⟨t, 0, none⟩)] w (OfTPost (Tb.mkT 8 ⟨0, 0⟩ (Tb.allOf L)) w) := by
  obtain ⟨a, c, rfl, hr, _, hc⟩ := h.shape
  have HR := Lib.hid hr; clear hr; have HW := Lib.hid hw; clear hw
  clear h
  go_enter Tryz.func78, Tryz.ntmps78
  go_wp2_with fail
  refine (All_any t a c L _ hl HW.out HR.out hc).mono ?_
  rintro e w1 ⟨g, rfl, _, hrow, hf⟩
  have hrd := rdl_row (hs := Tb.allOf L) hrow (Tb.allOf_len L) (fun n hn => allOf_get L hn)
  have hof := of_any 8 0 0 (Tb.allOf L) (some ⟨g, 0, none⟩) 256 w1 (fit_all (Tb.allOf_len L)) hrd (by rw [Tb.allOf_len]; omega) (by omega)
  rw [Tb.allOf_len] at hof
  generalize Tb.mkT 8 ⟨0, 0⟩ (Tb.allOf L) = T at *
  have HOF := Lib.hid hof; clear hof; have HF := Lib.hid hf; clear hf
  clear hrow hrd
  go_wp2_with fail
  refine HOF.out.mono ?_
  rintro e w2 ⟨b, rfl, ht, hf⟩
  have HT := Lib.hid ht
  have HF2 := Lib.hid (HF.out.trans hf)
  clear ht hf
  go_wp2
  go_ret
  exact ⟨b, rfl, HT.out, HF2.out⟩
def LvPost (R : List Tb.Rt) (w : World) (e : Ending) (w' : World) : Prop := ∃ v, e = .returned v ∧ SlR w' w.heap.size v R ∧ Fr NoB w w'
end Go.Proofs.YteedndapbfihaaaGreat
/- Changes done to a table; no program. -/
namespace Go.Proofs.YteedndapbfihaaaGreat.Tb

/-- One change done: routes, a code. -/
def stepC (L : List Rt) (c : Ch) : List Rt × Int := if get L c.p ≠ c.old then (L, 11) else (setL L c.p c.new, setC L c.p c.new)
/-- Those that take away, or the others. -/
def pass (away : Bool) : List Ch → List Rt → List Rt × Int
  | [], L => (L, 0)
  | c :: r, L => if (decide (c.new = -2) != away) = true then pass away r L else if (stepC L c).2 ≠ 0 then stepC L c else pass away r (stepC L c).1
def done (c : List Ch) (L : List Rt) : List Rt × Int := if (pass true c L).2 ≠ 0 then pass true c L else pass false c (pass true c L).1
end Go.Proofs.YteedndapbfihaaaGreat.Tb
/- Wishes and routes of a trie: the same as those of where all addresses go; no program. -/
namespace Go.Proofs.YteedndapbfihaaaGreat.Tb

def wshT : Tr → Int → Bool
  | .leaf _ x => fun h => h == x
  | .node _ l r => mix (wshT l) (wshT r)
def HopT : Tr → Prop
  | .leaf _ x => hopOK x
  | .node _ l r => HopT l ∧ HopT r
theorem wshT_wish : ∀ T, HopT T → Wish (wshT T)
  | .leaf _ x, h => ⟨fun k hk => by
      have e : k = x := by simpa [wshT] using hk
      rw [e]; exact h, x, by simp [wshT]⟩
  | .node _ l r, h => (wshT_wish l h.1).mix (wshT_wish r h.2)
theorem mkT_hop : ∀ (d : Nat) (p : Pf) (hs : List Int), Fit d p hs → HopsOK hs → HopT (mkT d p hs) ∧ wshT (mkT d p hs) = wsh d hs
  | 0, p, hs, hf, hh => ⟨hh 0 hf.pos, rfl⟩
  | d + 1, p, hs, hf, hh => by
    by_cases ha : alike hs
    · rw [(mkT_alike (d + 1) p hs hf).2 ha, (wsh_alike (d + 1) p hs hf hh ha).1]
      exact ⟨hh 0 hf.pos, rfl⟩
    · rw [mkT_node hf ha]
      obtain ⟨a1, a2⟩ := mkT_hop d _ _ hf.low hh.low
      obtain ⟨b1, b2⟩ := mkT_hop d _ _ hf.high hh.high
      refine ⟨⟨a1, b1⟩, ?_⟩
      show mix _ _ = mix _ _
      rw [a2, b2]
/-- The hops that are wished, in order. -/
def W (f : Int → Bool) : List Int := hops7.filter f
theorem W_mem {f : Int → Bool} (hf : Wish f) {h : Int} : h ∈ W f ↔ f h = true := by
  unfold W
  rw [List.mem_filter]
  exact ⟨fun k => k.2, fun k => ⟨mem7.2 (hf.1 h k), k⟩⟩
theorem W_sorted (f : Int → Bool) : (W f).Pairwise (· < ·) := List.Pairwise.filter f (by unfold hops7; decide)
theorem W_leaf {x : Int} (h : hopOK x) : W (fun k => k == x) = [x] := by
  unfold hopOK at h
  have : x = -1 ∨ x = 0 ∨ x = 1 ∨ x = 2 ∨ x = 3 ∨ x = 4 ∨ x = 5 := by omega
  rcases this with rfl | rfl | rfl | rfl | rfl | rfl | rfl <;> decide
theorem W_len (f : Int → Bool) : (W f).length ≤ 7 := List.length_filter_le _ _
theorem W_pos {f : Int → Bool} (hf : Wish f) : 0 < (W f).length := by
  obtain ⟨h, hh⟩ := hf.2
  exact List.length_pos_of_mem ((W_mem hf).2 hh)
theorem W_head {f : Int → Bool} : (W f).getD 0 0 = fstW f := by
  unfold fstW W
  cases hops7.filter f <;> rfl
/-- Of the first half's those that the second one has. -/
def common (A B : List Int) : List Int := A.filter fun h => B.contains h
theorem common_snoc (A B : List Int) (x : Int) : common (A ++ [x]) B = common A B ++ if B.contains x then [x] else [] := by
  unfold common
  rw [List.filter_append]
  congr 1
  by_cases h : B.contains x = true
  · rw [if_pos h, List.filter_cons_of_pos h]; rfl
  · rw [if_neg h, List.filter_cons_of_neg h]; rfl
theorem common_W {a b : Int → Bool} (_ : Wish a) (hb : Wish b) : common (W a) (W b) = W (fun h => a h && b h) := by
  unfold common
  have e : ∀ h, (W b).contains h = b h := fun h => by
    rw [Bool.eq_iff_iff, List.contains_iff_mem, W_mem hb]
  have e2 : (fun h => (W b).contains h) = b := funext e
  rw [e2]
  unfold W
  rw [List.filter_filter]
  congr 1
  funext h
  exact Bool.and_comm _ _
theorem common_empty {a b : Int → Bool} (ha : Wish a) (hb : Wish b) : common (W a) (W b) = [] ↔ ¬ both a b = true := by
  rw [common_W ha hb]
  unfold W
  rw [List.filter_eq_nil_iff]
  unfold both
  rw [List.any_eq_true]
  constructor
  · rintro h ⟨x, hx, k⟩
    exact h x hx k
  · intro h x hx k
    exact h ⟨x, hx, k⟩
theorem mix_common {a b : Int → Bool} (ha : Wish a) (hb : Wish b) (h : common (W a) (W b) ≠ []) : common (W a) (W b) = W (mix a b) := by
  have hb' : both a b = true := Classical.byContradiction fun k => h ((common_empty ha hb).2 k)
  rw [common_W ha hb]
  congr 1
  funext x
  unfold mix
  rw [if_pos hb']
theorem int_sorted_ext : ∀ l m : List Int, l.Pairwise (· < ·) → m.Pairwise (· < ·) → (∀ x, x ∈ l ↔ x ∈ m) → l = m
  | [], [], _, _, _ => rfl
  | [], y :: m, _, _, h => by have := (h y).2 (List.mem_cons_self ..); cases this
  | x :: l, [], _, _, h => by have := (h x).1 (List.mem_cons_self ..); cases this
  | x :: l, y :: m, hl, hm, h => by
    obtain ⟨l1, l2⟩ := List.pairwise_cons.1 hl
    obtain ⟨m1, m2⟩ := List.pairwise_cons.1 hm
    have e : x = y := by
      rcases List.mem_cons.1 ((h x).1 (List.mem_cons_self ..)) with e | e
      · exact e
      · rcases List.mem_cons.1 ((h y).2 (List.mem_cons_self ..)) with k | k
        · exact k.symm
        · have := m1 x e; have := l1 y k; omega
    subst e
    congr 1
    refine int_sorted_ext l m l2 m2 (fun z => ⟨fun hz => ?_, fun hz => ?_⟩)
    · rcases List.mem_cons.1 ((h z).1 (List.mem_cons_of_mem _ hz)) with e | e
      · subst e; have := l1 z hz; omega
      · exact e
    · rcases List.mem_cons.1 ((h z).2 (List.mem_cons_of_mem _ hz)) with e | e
      · subst e; have := m1 z hz; omega
      · exact e
/-- Both sorted together, where they have none in common. -/
theorem mix_union {a b : Int → Bool} (ha : Wish a) (hb : Wish b) (h : common (W a) (W b) = []) {l : List Int} (hp : l.Perm (W a ++ W b)) (hs : l.Pairwise (· ≤ ·)) : l = W (mix a b) := by
  have hn := (common_empty ha hb).1 h
  have hm : ∀ x, mix a b x = (a x || b x) := fun x => by unfold mix; rw [if_neg hn]
  have hnd : l.Nodup := by
    rw [hp.nodup_iff, List.nodup_append]
    refine ⟨(W_sorted a).imp (fun {x y} k e => by omega), (W_sorted b).imp (fun {x y} k e => by omega), fun x hx y hy e => ?_⟩
    subst e
    exact hn (both_iff.2 ⟨x, ha.1 x ((W_mem ha).1 hx), (W_mem ha).1 hx, (W_mem hb).1 hy⟩)
  refine int_sorted_ext l _ ?_ (W_sorted _) (fun x => ?_)
  · exact (hs.and hnd).imp (fun {x y} k => by have := k.1; have := k.2; omega)
  · rw [hp.mem_iff, List.mem_append, W_mem ha, W_mem hb, W_mem (ha.mix hb), hm, Bool.or_eq_true]
/-- Routes for a part of a trie, in which all goes to h, if there is no route. -/
def layT : Tr → Int → List Rt
  | .leaf p x, h => made (wshT (.leaf p x)) p h
  | .node p l r, h => made (wshT (.node p l r)) p h ++ (layT l (pick (wshT (.node p l r)) h) ++ layT r (pick (wshT (.node p l r)) h))
theorem layT_mk : ∀ (d : Nat) (p : Pf) (hs : List Int) (h : Int), Fit d p hs → HopsOK hs → layT (mkT d p hs) h = least d p hs h
  | 0, _, _, _, _, _ => rfl
  | d + 1, p, hs, h, hf, hh => by
    have hw := (mkT_hop (d + 1) p hs hf hh).2
    unfold least
    by_cases ha : alike hs
    · rw [if_pos ha, List.append_nil]
      rw [(mkT_alike (d + 1) p hs hf).2 ha] at hw ⊢
      show made (wshT _) p h = _
      rw [hw]
    · rw [if_neg ha]
      rw [mkT_node hf ha] at hw ⊢
      show made (wshT _) p h ++ (layT _ (pick (wshT _) h) ++ layT _ (pick (wshT _) h)) = _
      rw [hw, layT_mk d _ _ _ hf.low hh.low, layT_mk d _ _ _ hf.high hh.high]
theorem layT_len : ∀ (T : Tr) (h : Int), (layT T h).length + 1 ≤ 2 * (leaves T).length
  | .leaf p x, h => by
    show (made _ p h).length + 1 ≤ 2 * 1
    rw [made_len]
    have := no_le (wshT (.leaf p x)) h
    omega
  | .node p l r, h => by
    show (made _ p h ++ (layT l _ ++ layT r _)).length + 1 ≤ 2 * (leaves l ++ leaves r).length
    rw [List.length_append, List.length_append, List.length_append, made_len]
    have := no_le (wshT (.node p l r)) h
    have := layT_len l (pick (wshT (.node p l r)) h)
    have := layT_len r (pick (wshT (.node p l r)) h)
    omega
theorem few_layT {L : List Rt} (hw : Wf L) : layT (mkT 8 ⟨0, 0⟩ (allOf L)) (-1) = few L := layT_mk 8 _ _ _ (fit_allOf L) (allOf_hops hw)
theorem lv_le : ∀ (d : Nat) (p : Pf) (hs : List Int), Fit d p hs → (lv d p hs).length ≤ hs.length
  | 0, _, _, h => by have := h.pos; simp [lv]; omega
  | d + 1, p, hs, h => by
    unfold lv
    split
    · have := h.pos; simp; omega
    · have a := lv_le d _ _ h.low
      have b := lv_le d _ _ h.high
      rw [lowH_len] at a
      rw [highH_len] at b
      rw [List.length_append]
      omega
theorem few_512 {L : List Rt} (hw : Wf L) : (few L).length ≤ 511 := by
  have h1 := layT_len (mkT 8 ⟨0, 0⟩ (allOf L)) (-1)
  rw [few_layT hw, mkT_leaves 8 _ _ (fit_allOf L)] at h1
  have h2 := lv_le 8 _ _ (fit_allOf L)
  rw [allOf_len] at h2
  omega
end Go.Proofs.YteedndapbfihaaaGreat.Tb
/- The library's sorts at this seat's dump, in plain words. -/
namespace Go.Proofs
open Go.Shelf
def Tryz.lays189_ren : Go.Shelf.Ren := ⟨fun | 189 => 117 | 125 => 122 | 257 => 121 | 128 => 132 | 129 => 133 | 294 => 123 | 295 => 124 | 296 => 125 | 297 => 126 | 298 => 127 | 299 => 128 | 216 => 129 | 300 => 130 | 301 => 131 | 328 => 134 | 329 => 135 | 330 => 136 | 331 => 137 | 332 => 138 | 215 => 139 | 343 => 140 | n => n, fun | 28 => 64 | 3 => 3 | 46 => 159 | 0 => 0 | 51 => 180 | 53 => 182 | 4 => 4 | 183 => 174 | 182 => 173 | 131 => 99 | 5 => 5 | 9 => 9 | 218 => 183 | 222 => 187 | 228 => 189 | 229 => 190 | n => n, fun | n => n⟩
theorem Tryz.lays189 : Go.Proofs.Lays.n189 Tryz.prog Tryz.lays189_ren := {
  mixed := by kernel_rfl
  f125 := Tryz.func122.trans (congrArg some (by kernel_rfl))
  f128 := Tryz.func132.trans (congrArg some (by kernel_rfl))
  f129 := Tryz.func133.trans (congrArg some (by kernel_rfl))
  f189 := Tryz.func117.trans (congrArg some (by kernel_rfl))
  f215 := Tryz.func139.trans (congrArg some (by kernel_rfl))
  f216 := Tryz.func129.trans (congrArg some (by kernel_rfl))
  f257 := Tryz.func121.trans (congrArg some (by kernel_rfl))
  f294 := Tryz.func123.trans (congrArg some (by kernel_rfl))
  f295 := Tryz.func124.trans (congrArg some (by kernel_rfl))
  f296 := Tryz.func125.trans (congrArg some (by kernel_rfl))
  f297 := Tryz.func126.trans (congrArg some (by kernel_rfl))
  f298 := Tryz.func127.trans (congrArg some (by kernel_rfl))
  f299 := Tryz.func128.trans (congrArg some (by kernel_rfl))
  f300 := Tryz.func130.trans (congrArg some (by kernel_rfl))
  f301 := Tryz.func131.trans (congrArg some (by kernel_rfl))
  f328 := Tryz.func134.trans (congrArg some (by kernel_rfl))
  f329 := Tryz.func135.trans (congrArg some (by kernel_rfl))
  f330 := Tryz.func136.trans (congrArg some (by kernel_rfl))
  f331 := Tryz.func137.trans (congrArg some (by kernel_rfl))
  f332 := Tryz.func138.trans (congrArg some (by kernel_rfl))
  f343 := Tryz.func140.trans (congrArg some (by kernel_rfl))
  t0 := Tryz.underlying0
  a0 := Tryz.isAgg0
  z0 := Tryz.sizeOf0
  v0 := Tryz.zeroValue0
  t3 := Tryz.underlying3
  a3 := Tryz.isAgg3
  z3 := Tryz.sizeOf3
  v3 := Tryz.zeroValue3
  t4 := Tryz.underlying4
  a4 := Tryz.isAgg4
  z4 := Tryz.sizeOf4
  v4 := Tryz.zeroValue4
  t5 := Tryz.underlying5
  a5 := Tryz.isAgg5
  z5 := Tryz.sizeOf5
  v5 := Tryz.zeroValue5
  t9 := Tryz.underlying9
  a9 := Tryz.isAgg9
  z9 := Tryz.sizeOf9
  v9 := Tryz.zeroValue9
  t28 := Tryz.underlying64
  a28 := Tryz.isAgg64
  z28 := Tryz.sizeOf64
  v28 := Tryz.zeroValue64
  t46 := Tryz.underlying159
  a46 := Tryz.isAgg159
  z46 := Tryz.sizeOf159
  v46 := Tryz.zeroValue159
  t51 := Tryz.underlying180
  a51 := Tryz.isAgg180
  z51 := Tryz.sizeOf180
  v51 := Tryz.zeroValue180
  t53 := Tryz.underlying182
  a53 := Tryz.isAgg182
  z53 := Tryz.sizeOf182
  v53 := Tryz.zeroValue182
  t131 := Tryz.underlying99
  a131 := Tryz.isAgg99
  z131 := Tryz.sizeOf99
  v131 := Tryz.zeroValue99
  t182 := Tryz.underlying173
  a182 := Tryz.isAgg173
  z182 := Tryz.sizeOf173
  v182 := Tryz.zeroValue173
  t183 := Tryz.underlying174
  a183 := Tryz.isAgg174
  z183 := Tryz.sizeOf174
  v183 := Tryz.zeroValue174
  t218 := Tryz.underlying183
  a218 := Tryz.isAgg183
  z218 := Tryz.sizeOf183
  v218 := Tryz.zeroValue183
  t222 := Tryz.underlying187
  a222 := Tryz.isAgg187
  z222 := Tryz.sizeOf187
  v222 := Tryz.zeroValue187
  t228 := Tryz.underlying189
  a228 := Tryz.isAgg189
  z228 := Tryz.sizeOf189
  v228 := Tryz.zeroValue189
  t229 := Tryz.underlying190
  a229 := Tryz.isAgg190
  z229 := Tryz.sizeOf190
  v229 := Tryz.zeroValue190 }
open Go.Sort Go.RowKit in
theorem Tryz.slices_Sort_int (blk off cap : Nat) (zs : List Int) (w : World) (hH : Holds (Value.int .i64) w blk off zs.toArray) (hblk : blk < w.heap.size) (hsz : zs.length < 4611686018427387904) :
    Calls Tryz.prog 117 #[.slice (some ⟨blk, off, none⟩) zs.length cap] w fun e w' =>
      e = .returned (.tuple #[]) ∧ ∃ n os, w' = grow (putRow (Value.int .i64) (Sort.ahead w n) blk off (zs.mergeSort fun x y => decide (x ≤ y)).toArray) os := Any.slices_Sort_int Tryz.lays189 blk off cap zs w hH hblk hsz
end Go.Proofs
/- The library's sort of integers at this seat's dump. -/
namespace Go.Proofs.YteedndapbfihaaaGreat
open Go.RowKit Go.Deep Go.Sort
theorem LsShelf.sort_ints (blk off cap : Nat) (zs : List Int) (w : World) (hH : Holds (Value.int .i64) w blk off zs.toArray) (hblk : blk < w.heap.size) (hsz : zs.length < 4611686018427387904) :
    Calls Tryz.prog 117 #[.slice (some ⟨blk, off, none⟩) zs.length cap] w fun e w' =>
      e = .returned (.tuple #[]) ∧ ∃ n os, w' = grow (putRow (Value.int .i64) (Sort.ahead w n) blk off (zs.mergeSort fun x y => decide (x ≤ y)).toArray) os := Tryz.slices_Sort_int blk off cap zs w hH hblk hsz
end Go.Proofs.YteedndapbfihaaaGreat
/- Walks: slices.Clone, slices.Sort at integers; least.wish. -/
namespace Go.Proofs.YteedndapbfihaaaGreat
open Go.RowKit Go.Deep

def CloneIPost (xs : List Int) (w : World) (e : Ending) (w' : World) : Prop := ∃ v, e = .returned v ∧ Sl w' w.heap.size v xs ∧ Fr NoB w w'
theorem Sl.any1 {w : World} {base : Nat} {v : Value} {xs : List Int} (h : Sl w base v xs) (hp : 0 < xs.length) : ∃ g c, v = .slice (some ⟨g, 0, none⟩) xs.length c ∧ base ≤ g ∧ g < w.heap.size ∧ ∀ i, i < xs.length → w.cell? ⟨g, i, none⟩ = some (.int .i64 (xs.getD i 0)) := by
  rcases h.shape with ⟨_, rfl⟩ | ⟨g, c, h1, h2, h3, h4⟩
  · cases hp
  · exact ⟨g, c, h1, h2, h3, h4⟩
theorem ints_news {w : World} {g : Nat} {xs : List Int} (h : ∀ i, i < xs.length → w.cell? ⟨g, i, none⟩ = some (.int .i64 (xs.getD i 0))) : ∀ (j : Nat) (u : Value), (xs.map (Value.int .i64))[j]? = some u → w.cell? ((⟨g, 0, none⟩ : Addr).add j) = some u := by
  intro j u hj
  rw [List.getElem?_map] at hj
  obtain ⟨x, hx, rfl⟩ := Option.map_eq_some_iff.1 hj
  have hl := (List.getElem?_eq_some_iff.1 hx).1
  rw [add_base, h j hl, List.getD_eq_getElem?_getD, hx]
  rfl
set_option maxRecDepth 100000 in
set_option maxHeartbeats 4000000 in
/-- A clone of integers, one at least. -/
theorem CloneI_any (base : Nat) (v : Value) (xs : List Int) (w : World) (hl : xs.length ≤ 1000) (hp : 0 < xs.length) (h : Sl w base v xs) :
    Calls Tryz.prog 116 #[v] w (CloneIPost xs w) := by
  obtain ⟨g, c, rfl, _, _, hc⟩ := h.any1 hp
  have hF := (Fr.refl NoB w).alloc (.cells #[] 3)
  have hN : ∀ (j : Nat) (u : Value), (xs.map (Value.int .i64))[j]? = some u → (w.alloc (.cells #[] 3)).cell? ((⟨g, 0, none⟩ : Addr).add j) = some u := ints_news (fun i hi => cell_fr' hF (hc i hi) (fun h => h))
  have hown : (w.alloc (.cells #[] 3)).ownsRow w.heap.size 3 1 (.slice (some ⟨w.heap.size, 0, none⟩) 0 0) 0 [] := row_own (f := fun _ => .int .i64 0) (cap := 0) (World.rowIs_alloc w #[] 3 _ (by intro i hi; simp at hi)) (Nat.le_refl _) (Nat.le_refl _) (by unfold maxLen; omega) rfl (by intro k hk; omega)
  have hll : (xs.map (Value.int .i64)).length = xs.length * 1 := by rw [List.length_map, Nat.mul_one]
  have hq := fun w => Lib.run_eql_slice_nil (P := Tryz.prog) w 64 3 (some ⟨g, 0, none⟩) xs.length c 0 0 Tryz.underlying64
  dsimp only [Option.isNone] at hq
  have HN := Lib.hid hN; clear hN; have HO := Lib.hid hown; clear hown; have HL := Lib.hid hll; clear hll
  clear h hF hc
  go_enter Tryz.func116, Tryz.ntmps116
  go_wp2_with (at_builtin; refine app_own rfl _ _ 64 3 1 8 _ rfl Tryz.underlying64 Tryz.info3 rfl (by omega) w.heap.size (.slice (some ⟨w.heap.size, 0, none⟩) 0 0) 0 [] rfl HO.out ⟨g, 0, none⟩ xs.length c (xs.map (Value.int .i64)) rfl HL.out HN.out (ints_one _) (by omega) (by omega) (by simp) ?_; intro v' w1 hv hf)
  go_ret
  refine ⟨v', rfl, ?_, ?_⟩
  · have hv := hv
    rw [Nat.zero_add, List.nil_append] at hv
    exact hv
  · exact ((Fr.refl NoB w).alloc _).trans' hf (fun i hi h => by cases h; exact absurd hi (Nat.lt_irrefl _))
theorem heap_sort {w : World} {blk off n : Nat} {d : Array Int} {os : Array Obj} : Fr (fun i => i = blk) w (Go.Sort.grow (Go.Sort.putRow (Value.int .i64) (Go.Sort.ahead w n) blk off d) os) := by
  refine ⟨rfl, rfl, rfl, by simp, fun k hk hne => ?_⟩
  rw [Go.Sort.heap_grow_old _ _ (by simpa using hk)]
  have : blk ≠ k := fun e => hne e.symm
  simp [Go.Sort.putRow, Go.Sort.mapBlock, Go.Sort.ahead, Array.getElem?_modify, this]
def SortIPost (base : Nat) (v : Value) (xs : List Int) (w : World) (e : Ending) (w' : World) : Prop := e = .returned (.tuple #[]) ∧ ∃ ys : List Int, ys.Perm xs ∧ ys.Pairwise (· ≤ ·) ∧ Sl w' base v ys ∧ Fr (fun i => v.ownBlock = some i) w w'
/-- slices.Sort of integers of the call's own. -/
theorem SortI_any (base : Nat) (v : Value) (xs : List Int) (w : World) (hl : xs.length ≤ 1000) (hp : 0 < xs.length) (h : Sl w base v xs) :
    Calls Tryz.prog 117 #[v] w (SortIPost base v xs w) := by
  rcases h.2 with ⟨h1, h2⟩ | ⟨g, cap, cur, h1, h2, h3, h4, h5, h6, h7⟩
  · omega
  · subst h1
    rw [Nat.mul_one] at h7
    have hg : g < w.heap.size := (Array.getElem?_eq_some_iff.1 h3).1
    refine (LsShelf.sort_ints g 0 cap xs w (Go.holds_of_blockI h3 h7) hg (by omega)).mono ?_
    rintro e w' ⟨rfl, n, os, rfl⟩
    have hperm := List.mergeSort_perm xs (fun x y => decide (x ≤ y))
    have hsort := List.pairwise_mergeSort (le := fun x y : Int => decide (x ≤ y)) (fun a b c h1 h2 => by simp at *; omega) (fun a b => by simp; omega) xs
    refine ⟨rfl, _, hperm, hsort.imp (fun {a b} k => by simpa using k), ?_, ?_⟩
    · have hlen : (xs.mergeSort fun x y => decide (x ≤ y)).length = xs.length := hperm.length_eq
      have := Go.ownsRow_sortedI (n := n) (os := os) hlen h2 h3 h4 h5 h6
      unfold Sl
      rw [hlen]
      exact this
    · exact (heap_sort (w := w) (n := n) (os := os)).mono (fun i _ hi => by rw [hi]; rfl)
end Go.Proofs.YteedndapbfihaaaGreat
