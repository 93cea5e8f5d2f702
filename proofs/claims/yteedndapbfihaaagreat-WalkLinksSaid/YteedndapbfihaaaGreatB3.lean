/- Walks: (*Links).Far: Dijkstra's way. -/
import Derived.Test.YteedndapbfihaaaGreatB2
import Derived.Test.YteedndapbfihaaaGreatB1
import Derived.Deep.RegionHeld3
namespace Go.Proofs.YteedndapbfihaaaGreat
open Go.RowKit Go.Deep

def fillK (k : Nat) : Nat → Int := fun n => if n < k then 200 else 0
def Bools (w : World) (b : Nat) (f : Nat → Bool) : Prop := w.rowIs b 143 6 (fun i => .bool (f i))
theorem Bools.cell {w : World} {b : Nat} {f : Nat → Bool} (h : Bools w b f) {i : Nat} (hi : i < 6) : w.cell? ⟨b, i, none⟩ = some (.bool (f i)) := World.rowIs.cell h hi
theorem Bools.set {w : World} {b : Nat} {f : Nat → Bool} (h : Bools w b f) (i : Nat) : Bools (w.setCell ⟨b, i, none⟩ (.bool true)) b (fun n => f n || decide (n = i)) :=
  (World.rowIs.set h i (.bool true)).congr fun j _ => by
    by_cases e : j = i
    · simp [e]
    · simp [e]

theorem Bools_new (w : World) (D : Nat) (h : D = w.heap.size) : Bools (w.alloc (.cells #[.bool false, .bool false, .bool false, .bool false, .bool false, .bool false] 143)) D (fun _ => false) := by
  subst h
  exact rowIs_new w 6 (.bool false) 143

theorem far_none {C : Nat → Nat → Int} {s : Int} (hc : Lk.CostOK C) (h : ¬ (0 ≤ s ∧ s < 6)) (v : Nat) (hv : v < 6) : Lk.far C s v = 200 := by
  refine Lk.far_eq (d := fun _ => 200) ⟨fun _ _ => by omega, fun _ _ => by omega, fun v hv e => by omega, fun a b ha hb h => by omega, fun v _ h => by omega⟩ hc.lo v hv

set_option maxHeartbeats 2000000 in
theorem Far_none (b : Nat) (s : Int) (C : Nat → Nat → Int) (w : World) (hc : Lk.CostOK C) (hs : ¬ (0 ≤ s ∧ s < 6)) :
    Calls Tryz.prog 65 #[.pointer (some ⟨b, 0, none⟩), .int .i64 s] w (FarPost (Lk.far C s) w) := by
  have HS := Lib.hid hs; clear hs
  have HH := Lib.hid hc; clear hc
  have hmk := mk6
  go_enter Tryz.func65, Tryz.ntmps65
  go_wp2
  clear hmk
  go_loopw [15] (fun i wr => ∃ k : Nat, k ≤ 6 ∧ i = .int .i64 k ∧ wr.rowIs w.heap.size 3 6 (I (fillK k)) ∧ Fr NoB w wr) (fun i _ => 6 - (intOf i).toNat)
  case atStart => exact ⟨0, by omega, rfl, (rowIs_new w 6 (.int .i64 0) 3).congr (by intro i _; simp [I, fillK]), (Fr.refl _ _).alloc _⟩
  case round =>
    obtain ⟨k, hk, rfl, hrow, hfr⟩ := hrel
    have HR := Lib.hid hrow; clear hrow
    have HF := Lib.hid hfr; clear hfr
    by_cases hk6 : k < 6
    · have hcell := rowI_cell HR.out hk6
      have hfz := HR.out.frozen k
      go_wp2
      go_roundw
      case rel => exact ⟨k + 1, by omega, by go_num, rowI_set HR.out k 200 (by
          intro j hj
          by_cases e : j = k
          · subst e; simp [fillK]
          · have : j < k + 1 ↔ j < k := by omega
            simp [fillK, e, this]), (HF.out.setNew (Nat.le_refl _) _ _)⟩
      case measure => simp [intOf]; omega
    · have e6 : k = 6 := by omega
      have HR := Lib.hid ((HR.out.congr (g := I (Lk.far C s)) (by intro i hi; simp [I, fillK, hi, e6, far_none HH.out HS.out i hi])))
      clear e6
      go_wp2_with fail
      refine (Node_no _ _ HS.out).mono ?_; rintro e w' ⟨rfl, rfl⟩
      go_wp2
      go_ret
      exact ⟨_, rfl, Nat.le_refl _, HR.out, HF.out⟩

/-- What Far's inner loop has done behind k of the neighbours. -/
def dstep (C : Nat → Nat → Int) (o : Nat → Int) (t k : Nat) : Nat → Int := fun b => if b ∈ (ofL C t 6).take k then min (o b) (o t + C t b) else o b
theorem mem_ofL (C : Nat → Nat → Int) (t b : Nat) : b ∈ ofL C t 6 ↔ b < 6 ∧ 0 < C t b := by simp [ofL]
theorem nodup_ofL (C : Nat → Nat → Int) (t : Nat) : (ofL C t 6).Nodup := List.Pairwise.filter _ List.nodup_range
theorem dstep_end (C : Nat → Nat → Int) (o : Nat → Int) (t b : Nat) (hb : b < 6) : dstep C o t (ofL C t 6).length b = if 0 < C t b then min (o b) (o t + C t b) else o b := by
  unfold dstep
  rw [List.take_length]
  by_cases h : 0 < C t b
  · rw [if_pos ((mem_ofL C t b).2 ⟨hb, h⟩), if_pos h]
  · rw [if_neg (fun h' => h ((mem_ofL C t b).1 h').2), if_neg h]
theorem not_mem_take {l : List Nat} (h : l.Nodup) (k : Nat) (hk : k < l.length) : l[k] ∉ l.take k := by
  intro hm
  obtain ⟨i, hi, e⟩ := List.mem_iff_getElem.1 hm
  have hi' : i < k := by simp at hi; omega
  rw [List.getElem_take] at e
  exact absurd (List.getElem_inj h |>.1 e) (by omega)
theorem dstep_next (C : Nat → Nat → Int) (o : Nat → Int) (t k : Nat) (hk : k < (ofL C t 6).length) (b : Nat) :
    dstep C o t (k + 1) b = if b = (ofL C t 6)[k] then min (o b) (o t + C t b) else dstep C o t k b := by
  unfold dstep
  rw [List.take_succ_eq_append_getElem hk]
  by_cases e : b = (ofL C t 6)[k]
  · rw [if_pos (List.mem_append.2 (.inr (List.mem_singleton.2 e))), if_pos e]
  · have h : b ∈ (ofL C t 6).take k ++ [(ofL C t 6)[k]] ↔ b ∈ (ofL C t 6).take k := by
      rw [List.mem_append, List.mem_singleton]
      exact ⟨fun h => h.resolve_right e, .inl⟩
    rw [if_neg e]
    simp only [h]
theorem dstep_here (C : Nat → Nat → Int) (o : Nat → Int) (t k : Nat) (hk : k < (ofL C t 6).length) : dstep C o t k (ofL C t 6)[k] = o (ofL C t 6)[k] := by
  unfold dstep
  rw [if_neg (not_mem_take (nodup_ofL C t) k hk)]
theorem dstep_self {C : Nat → Nat → Int} (hc : Lk.CostOK C) (o : Nat → Int) (t k : Nat) (ht : t < 6) : dstep C o t k t = o t := by
  unfold dstep
  rw [if_neg]
  intro h
  have := ((mem_ofL C t t).1 (List.mem_of_mem_take h)).2
  have := hc.self t ht
  omega

/-- What holds at the head of each turn: B: the distances' block, D: that of what is done. -/
def DijRel (C : Nat → Nat → Int) (s : Nat) (w : World) (D : Nat) (i : Value) (wr : World) : Prop :=
  ∃ (k : Nat) (o : Nat → Int) (done : Nat → Bool), k ≤ 6 ∧ i = .int .i64 k ∧ wr.rowIs w.heap.size 3 6 (I o) ∧ Bools wr D done ∧ Lk.Dij C s o done ∧ k ≤ (List.range 6).countP done ∧ Fr NoB w wr
def NbRel (C : Nat → Nat → Int) (o : Nat → Int) (t : Nat) (w w3 : World) (D : Nat) (done : Nat → Bool) (i : Value) (wr : World) : Prop :=
  ∃ k : Nat, k ≤ (ofL C t 6).length ∧ i = .int .i64 k ∧ wr.rowIs w.heap.size 3 6 (I (dstep C o t k)) ∧ Bools wr D done ∧ Fr (OneB w.heap.size) w3 wr ∧ Fr NoB w wr

set_option maxRecDepth 100000 in
set_option maxHeartbeats 8000000 in
theorem Far_node (b : Nat) (s : Nat) (C : Nat → Nat → Int) (w : World) (hC : CAt w b 108 C) (hc : Lk.CostOK C) (hs6 : s < 6) :
    Calls Tryz.prog 65 #[.pointer (some ⟨b, 0, none⟩), .int .i64 s] w (FarPost (Lk.far C s) w) := by
  have HC := Lib.hid hC; clear hC
  have HH := Lib.hid hc; clear hc
  have hmk := mk6
  go_enter Tryz.func65, Tryz.ntmps65
  go_wp2
  clear hmk
  go_loopw [15] (fun i wr => ∃ k : Nat, k ≤ 6 ∧ i = .int .i64 k ∧ wr.rowIs w.heap.size 3 6 (I (fillK k)) ∧ Fr NoB w wr ∧ wr.heap.size = w.heap.size + 1) (fun i _ => 6 - (intOf i).toNat)
  case atStart => exact ⟨0, by omega, rfl, (rowIs_new w 6 (.int .i64 0) 3).congr (by intro i _; simp [I, fillK]), (Fr.refl _ _).alloc _, by simp⟩
  case round =>
    obtain ⟨k, hk, rfl, hrow, hfr, hsz⟩ := hrel
    have HR := Lib.hid hrow; clear hrow
    have HF := Lib.hid hfr; clear hfr
    have HZ := Lib.hid hsz; clear hsz
    by_cases hk6 : k < 6
    · have hcell := rowI_cell HR.out hk6
      have hfz := HR.out.frozen k
      go_wp2
      go_roundw
      case rel => exact ⟨k + 1, by omega, by go_num, rowI_set HR.out k 200 (by
          intro j hj
          by_cases e : j = k
          · subst e; simp [fillK]
          · have : j < k + 1 ↔ j < k := by omega
            simp [fillK, e, this]), (HF.out.setNew (Nat.le_refl _) _ _), by rw [nblk_setCell]; exact HZ.out⟩
      case measure => simp [intOf]; omega
    · have e6 : k = 6 := by omega
      have HR := Lib.hid ((HR.out.congr (g := I (fun _ => 200)) (by intro i hi; simp [I, fillK, hi, e6])))
      clear e6
      have hcell := rowI_cell HR.out hs6
      have hfz := HR.out.frozen s
      have hnb : decide ((s : Int) < 6) = true := by simp; omega
      go_wp2_with fail
      refine (Node_yes _ _ (by omega) (by omega)).mono ?_; rintro e w' ⟨rfl, rfl⟩
      go_wp2
      obtain ⟨w1, rfl⟩ : ∃ w1 : World, w1 = wr := ⟨_, rfl⟩
      have hlt := HR.out.lt
      have hDne : w1.heap.size ≠ w.heap.size := by omega
      have HL := Lib.hid hlt; clear hlt
      have HDn := Lib.hid hDne; clear hDne
      have hst : (w1.setCell ⟨w.heap.size, s, none⟩ (.int .i64 0)).rowIs w.heap.size 3 6 (I (Lk.start s)) := rowI_set HR.out s 0 (by intro j _; simp only [Lk.start, Int.natCast_inj])
      have HST := Lib.hid hst; clear hst
      go_loopw [29] (fun i wr => DijRel C s w w1.heap.size i wr) (fun i _ => 6 - (intOf i).toNat)
      case atStart => exact ⟨0, Lk.start s, fun _ => false, by omega, rfl, HST.out.alloc _, Bools_new _ _ (by simp), Lk.Dij.start C s, by omega, (HF.out.setNew (Nat.le_refl _) _ _).alloc _⟩
      case round =>
        clear HR HF HST HZ hcell hfz
        obtain ⟨k, o, done, hk, rfl, hrow, hbools, hdij, hcnt, hfr⟩ := hrel
        have HR := Lib.hid hrow; clear hrow
        have HB := Lib.hid hbools; clear hbools
        have HJ := Lib.hid hdij; clear hdij
        have HN := Lib.hid hcnt; clear hcnt
        have HF := Lib.hid hfr; clear hfr
        by_cases hk6 : k < 6
        · have hkb : decide ((k : Int) < 6) = true := by simp; omega
          go_wp2
          obtain ⟨w2, rfl⟩ : ∃ w2 : World, w2 = wr := ⟨_, rfl⟩
          go_loopw [8, 33] (fun p i wr => ∃ n : Nat, n ≤ 6 ∧ i = .int .i64 n ∧ p = .int .i64 (Lk.nearest o done n) ∧ wr.rowIs w.heap.size 3 6 (I o) ∧ Bools wr w1.heap.size done ∧ Fr NoB w wr) (fun _ i _ => 6 - (intOf i).toNat)
          case atStart => exact ⟨0, by omega, rfl, rfl, HR.out, HB.out, HF.out⟩
          case round =>
            clear HR HB HF
            obtain ⟨n, hn, rfl, rfl, hrow, hbools, hfr⟩ := hrel
            have HR := Lib.hid hrow; clear hrow
            have HB := Lib.hid hbools; clear hbools
            have HF := Lib.hid hfr; clear hfr
            by_cases hn6 : n < 6
            · have hge := Lk.nearest_ge o done n
              have hnext : Lk.nearest o done (n + 1) = if done n = false ∧ o n < 200 ∧ (Lk.nearest o done n < 0 ∨ o n < o (Lk.nearest o done n).toNat) then (n : Int) else Lk.nearest o done n := rfl
              generalize Lk.nearest o done n = m at *
              have HX := Lib.hid hnext; clear hnext
              obtain ⟨hm1, hm2⟩ := hge
              have c2 := rowI_cell HR.out hn6
              cases hd : done n
              · have cA : wr.cell? ⟨w1.heap.size, n, none⟩ = some (.bool false) := by rw [← hd]; exact HB.out.cell hn6
                have HD := Lib.hid hd; clear hd
                by_cases g2 : o n < 200
                · by_cases g3 : m < 0
                  · obtain rfl : m = -1 := by omega
                    go_wp2
                    go_quiet (fail)
                    go_wp2
                    go_roundw
                    case rel => exact ⟨n + 1, by omega, by go_num, by rw [HX.out, if_pos ⟨HD.out, g2, .inl (by omega)⟩], HR.out, HB.out, HF.out.drewN _⟩
                    case measure => simp [intOf]; omega
                  · obtain ⟨t, rfl⟩ : ∃ t : Nat, m = t := ⟨m.toNat, by omega⟩
                    have ht6 : t < 6 := by omega
                    have c3 := rowI_cell HR.out ht6
                    have g3' : decide ((t : Int) < 0) = false := by simp
                    clear g3
                    by_cases g4 : o n < o t
                    · go_wp2
                      go_quiet (fail)
                      go_wp2
                      go_roundw
                      case rel => exact ⟨n + 1, by omega, by go_num, by rw [HX.out, if_pos ⟨HD.out, g2, .inr (by simpa using g4)⟩], HR.out, HB.out, HF.out.drewN _⟩
                      case measure => simp [intOf]; omega
                    · go_wp2
                      go_quiet (fail)
                      go_wp2
                      go_roundw
                      case rel => exact ⟨n + 1, by omega, by go_num, by rw [HX.out, if_neg (by simp; omega)], HR.out, HB.out, HF.out.drewN _⟩
                      case measure => simp [intOf]; omega
                · have g2' : decide (o n < 200) = false := by simpa using g2
                  go_wp2
                  go_quiet (fail)
                  go_wp2
                  go_roundw
                  case rel => exact ⟨n + 1, by omega, by go_num, by rw [HX.out, if_neg (by omega)], HR.out, HB.out, HF.out.drewN _⟩
                  case measure => simp [intOf]; omega
              · have cA : wr.cell? ⟨w1.heap.size, n, none⟩ = some (.bool true) := by rw [← hd]; exact HB.out.cell hn6
                have HD := Lib.hid hd; clear hd
                go_wp2
                go_quiet (fail)
                go_wp2
                go_roundw
                case rel => exact ⟨n + 1, by omega, by go_num, by rw [HX.out, if_neg (by rw [HD.out]; simp)], HR.out, HB.out, HF.out.drewN _⟩
                case measure => simp [intOf]; omega
            · have e6 : n = 6 := by omega
              have hsp := Lk.nearest_spec o done 6
              rw [e6]
              clear e6 hn6 hn
              rcases hsp with ⟨h1, h2⟩ | ⟨t, h1, h2, h3, h4, h5⟩
              · rw [h1]
                have H2 := Lib.hid h2; clear h2 h1
                go_wp2
                go_ret
                refine ⟨_, rfl, Nat.le_refl _, HR.out.congr ?_, HF.out⟩
                intro v hv
                simp only [I]
                rw [Lk.far_eq (HJ.out.sol H2.out) HH.out.lo v hv]
              · rw [h1]
                have H3 := Lib.hid h3; have H5 := Lib.hid h5; clear h1 h3 h5
                have cD := HB.out.cell h2
                have fD := World.rowIs.frozen HB.out t
                have g3' : decide ((t : Int) < 0) = false := by simp
                go_wp2_with fail
                have k1 := HR.out.setOther (a := ⟨w1.heap.size, t, none⟩) (fun h => HDn.out h.symm) (.bool true)
                have k2 := HB.out.set t
                have k3 := HF.out.setNew (Nat.le_of_lt HL.out) t (.bool true)
                clear HR HB HF cD fD
                generalize wr.setCell ⟨w1.heap.size, t, none⟩ (.bool true) = W at *
                refine (Of_yes b t C _ h2 (k3.row HC.out (fun h => h))).mono ?_
                rintro e w3 ⟨v, rfl, hv, hf⟩
                have k0 : w.heap.size < W.heap.size := k1.lt
                have k1 := hf.row k1 (fun h => h)
                have k2 : Bools w3 w1.heap.size (fun n => done n || decide (n = t)) := hf.row k2 (fun h => h)
                have k3 := k3.trans hf
                clear hf
                have HR := Lib.hid k1; clear k1
                have HB := Lib.hid k2; clear k2
                have HF := Lib.hid k3; clear k3
                rcases hv.shape with ⟨rfl, hx⟩ | ⟨g, cap, rfl, hg, hg2, hcells⟩
                · have HL0 : (ofL C t 6).length = 0 := by simpa [ints] using congrArg List.length hx
                  have hend : ∀ b', b' < 6 → o b' = if 0 < C t b' then min (o b') (o t + C t b') else o b' := by
                    intro b' hb'
                    rw [← dstep_end C o t b' hb', HL0]
                    simp [dstep]
                  have HE := Lib.hid hend; clear hend hx hv HL0
                  go_wp2
                  refine wp_loop_rounds 1 ?_
                  rw [rounds_succ]
                  go_wp2
                  go_roundw
                  case rel => exact ⟨k + 1, o, _, by omega, by go_num, HR.out, HB.out, HJ.out.next HH.out h2 H3.out h4 H5.out (fun _ _ => rfl) HE.out, by have := Lk.count_next (done := done) (done' := fun n => done n || decide (n = t)) h2 H3.out (fun _ _ => rfl); have := HN.out; omega, HF.out⟩
                  case measure => simp [intOf]; omega
                · have HV := Lib.hid hcells; clear hcells hv
                  have hlen : (ints (ofL C t 6)).length = (ofL C t 6).length := by simp [ints]
                  rw [hlen] at *
                  clear hlen
                  have hgB : g ≠ w.heap.size := by omega
                  have HG := Lib.hid hgB; clear hgB
                  go_wp2
                  go_loopw [72] (fun i wr => NbRel C o t w w3 w1.heap.size (fun n => done n || decide (n = t)) i wr) (fun i _ => (ofL C t 6).length - (intOf i).toNat)
                  case atStart => exact ⟨0, by omega, rfl, HR.out.congr (fun i hi => by simp [I, dstep]), HB.out, Fr.refl _ _, HF.out⟩
                  case round =>
                    clear HR HB HF
                    obtain ⟨j, hj, rfl, hrow, hbools, hfr1, hfr⟩ := hrel
                    have HR := Lib.hid hrow; clear hrow
                    have HB := Lib.hid hbools; clear hbools
                    have HF1 := Lib.hid hfr1; clear hfr1
                    have HF := Lib.hid hfr; clear hfr
                    have hLe := ofL_le C t 6
                    by_cases hjl : j < (ofL C t 6).length
                    · have hmem := (mem_ofL C t (ofL C t 6)[j]).1 (List.getElem_mem hjl)
                      have hhere := dstep_here C o t j hjl
                      have hnext := dstep_next C o t j hjl
                      have cV : wr.cell? ⟨g, j, none⟩ = some (.int .i64 ((ofL C t 6)[j] : Nat)) := by
                        rw [World.cell?_of_block (w := w3) (HF1.out.block g hg2 (fun h => HG.out h)), HV.out j (by simpa [ints] using hjl)]
                        simp [ints, hjl]
                      generalize (ofL C t 6)[j] = c at *
                      obtain ⟨hc6, hcpos⟩ := hmem
                      have c1 := CAt.cell (HF.out.row HC.out (fun h => h)) h2 hc6
                      have c2 := rowI_cell HR.out hc6
                      have c3 := rowI_cell HR.out h2
                      rw [hhere] at c2
                      rw [dstep_self HH.out o t j h2] at c3
                      have f2 := HR.out.frozen c
                      have HN2 := Lib.hid hnext; clear hnext hhere
                      have b1 := HH.out.hi t c h2 hc6
                      have b2 := HJ.out.lo c hc6
                      have b3 := HJ.out.hi c hc6
                      have b4 := HJ.out.lo t h2
                      go_wp2
                      go_region
                      go_wp2
                      go_roundw
                      case rel => exact ⟨j + 1, by omega, by go_num, World.rowIs.drew (rowI_set HR.out c _ (by
                        intro i _
                        rw [HN2.out i]
                        by_cases e : i = c
                        · subst e; rw [if_pos rfl, if_pos rfl, Int.min_def]; split <;> split <;> omega
                        · rw [if_neg e, if_neg e])), World.rowIs.drew (World.rowIs.setOther HB.out (fun h => HDn.out h) _), (HF1.out.set1 _ _).drew, (HF.out.setNew (Nat.le_refl _) _ _).drew⟩
                      case measure => simp [intOf]; omega
                    · have e6 : j = (ofL C t 6).length := by omega
                      have hend : ∀ b', b' < 6 → dstep C o t j b' = if 0 < C t b' then min (o b') (o t + C t b') else o b' := by
                        intro b' hb'
                        rw [e6]
                        exact dstep_end C o t b' hb'
                      have HE := Lib.hid hend; clear hend e6
                      go_wp2
                      go_roundw
                      case rel => exact ⟨k + 1, dstep C o t j, _, by omega, by go_num, HR.out, HB.out, HJ.out.next HH.out h2 H3.out h4 H5.out (fun _ _ => rfl) HE.out, by have := Lk.count_next (done := done) (done' := fun n => done n || decide (n = t)) h2 H3.out (fun _ _ => rfl); have := HN.out; omega, HF.out⟩
                      case measure => simp [intOf]; omega
        · go_wp2
          go_ret
          refine ⟨_, rfl, Nat.le_refl _, HR.out.congr ?_, HF.out⟩
          intro v hv
          have hall := Lk.all_done (done := done) (Nat.le_antisymm (by have := List.countP_le_length (p := done) (l := List.range 6); simpa using this) (by have := HN.out; omega))
          simp only [I]
          rw [Lk.far_eq (HJ.out.sol (fun n hn hd => by rw [hall n hn] at hd; cases hd)) HH.out.lo v hv]
end Go.Proofs.YteedndapbfihaaaGreat
/- SameInts of the document's own answer. -/
namespace Go.Proofs.YteedndapbfihaaaGreat
open Go.RowKit Go.Deep

def SamePost (n m : Nat) (X Y : Nat → Int) (w : World) (e : Ending) (w' : World) : Prop := ∃ r : Bool, e = .returned (.bool r) ∧ (r = true ↔ n = m ∧ ∀ k, k < n → X k = Y k) ∧ ∃ j, w' = w.drewN j
def SameRel (n : Nat) (X Y : Nat → Int) (w : World) (i : Value) (wr : World) : Prop := ∃ k : Nat, k ≤ n ∧ i = .int .i64 k ∧ (∀ j, j < k → X j = Y j) ∧ ∃ j, wr = w.drewN j
set_option maxHeartbeats 1000000 in
theorem SameInts_any (a b : Option Addr) (n m c d : Nat) (X Y : Nat → Int) (w : World) (hn : n ≤ 2147483648) (hm : m ≤ 2147483648) (ha : Rd w a n X) (hb : Rd w b m Y) :
    Calls Tryz.prog 36 #[.slice a n c, .slice b m d] w (SamePost n m X Y w) := by
  have HA := Lib.hid ha; clear ha
  have HB := Lib.hid hb; clear hb
  by_cases hnm : n = m
  · subst hnm
    go_enter Tryz.func36, Tryz.ntmps36
    go_wp2
    go_loopw [5] (fun i wr => SameRel n X Y w i wr) (fun i _ => n - (intOf i).toNat)
    case atStart => exact ⟨0, by omega, rfl, fun j hj => by omega, 0, rfl⟩
    case round =>
      obtain ⟨k, hk, rfl, heq, jd, rfl⟩ := hrel
      have HE := Lib.hid heq; clear heq
      by_cases hkn : k < n
      · obtain ⟨b1, o1, rfl, c1⟩ := HA.out k hkn
        obtain ⟨b2, o2, rfl, c2⟩ := HB.out k hkn
        by_cases hx : X k = Y k
        · have hxb : (X k != Y k) = false := by simp [hx]
          have HX := Lib.hid hx; clear hx
          go_wp2
          go_quiet (fail)
          go_wp2
          go_roundw
          case rel => exact ⟨k + 1, by omega, by go_num, fun j hj => by
            by_cases e : j = k
            · rw [e]; exact HX.out
            · exact HE.out j (by omega), _, rfl⟩
          case measure => simp [intOf]; omega
        · have hxb : (X k != Y k) = true := by simp [hx]
          have HX := Lib.hid hx; clear hx
          go_wp2
          go_quiet (fail)
          go_wp2
          go_ret
          exact ⟨false, rfl, ⟨fun h => (by cases h), fun h => absurd (h.2 k hkn) HX.out⟩, _, World.drewN_drewN _ _ _⟩
      · go_wp2
        go_ret
        exact ⟨true, rfl, ⟨fun _ => ⟨rfl, fun j hj => HE.out j (by omega)⟩, fun _ => rfl⟩, _, rfl⟩
  · have hb1 : ((n : Int) != (m : Int)) = true := by simp; omega
    have HN := Lib.hid hnm; clear hnm
    go_enter Tryz.func36, Tryz.ntmps36
    go_wp2
    go_ret
    exact ⟨false, rfl, ⟨fun h => (by cases h), fun h => absurd h.1 HN.out⟩, 0, rfl⟩
end Go.Proofs.YteedndapbfihaaaGreat
/- Walks: SameInts; Map.Set; what a slice of integers reads. -/
namespace Go.Proofs.YteedndapbfihaaaGreat
open Go.RowKit Go.Deep

set_option maxHeartbeats 1000000 in
theorem MSet_no (b : Nat) (x y v : Int) (w : World) (h : ¬ (0 ≤ x ∧ x < 6 ∧ 0 ≤ y ∧ y < 6 ∧ x ≠ y ∧ 0 ≤ v ∧ v ≤ 15)) :
    Calls Tryz.prog 68 #[.pointer (some ⟨b, 0, none⟩), .int .i64 x, .int .i64 y, .int .i64 v] w fun e w' => e = .returned (.int .i64 1) ∧ w = w' := by
  by_cases hx : 0 ≤ x ∧ x < 6
  · obtain ⟨hx0, hx1⟩ := hx
    by_cases hy : 0 ≤ y ∧ y < 6
    · obtain ⟨hy0, hy1⟩ := hy
      by_cases hxy : x = y
      · subst hxy
        clear h
        go_enter Tryz.func68, Tryz.ntmps68
        go_wp2_with (first | (go_at_call 20; refine (RNode_yes _ _ (by omega) (by omega)).mono ?_; rintro e w' ⟨rfl, rfl⟩))
        go_ret
        exact ⟨rfl, rfl⟩
      · have hb : (x == y) = false := by simp; omega
        by_cases hv : v < 0
        · clear h hxy
          go_enter Tryz.func68, Tryz.ntmps68
          go_wp2_with (first | (go_at_call 20; refine (RNode_yes _ _ (by omega) (by omega)).mono ?_; rintro e w' ⟨rfl, rfl⟩))
          go_ret
          exact ⟨rfl, rfl⟩
        · have hv1 : 15 < v := by omega
          have hv0 : 0 ≤ v := by omega
          clear h hxy hv
          go_enter Tryz.func68, Tryz.ntmps68
          go_wp2_with (first | (go_at_call 20; refine (RNode_yes _ _ (by omega) (by omega)).mono ?_; rintro e w' ⟨rfl, rfl⟩))
          go_ret
          exact ⟨rfl, rfl⟩
    · have HY := Lib.hid hy; clear hy h
      go_enter Tryz.func68, Tryz.ntmps68
      go_wp2_with fail
      refine (RNode_yes _ _ hx0 hx1).mono ?_; rintro e w' ⟨rfl, rfl⟩
      go_wp2_with fail
      refine (RNode_no _ _ HY.out).mono ?_; rintro e w' ⟨rfl, rfl⟩
      go_wp2
      go_ret
      exact ⟨rfl, rfl⟩
  · have HX := Lib.hid hx; clear hx h
    go_enter Tryz.func68, Tryz.ntmps68
    go_wp2_with fail
    refine (RNode_no _ _ HX.out).mono ?_; rintro e w' ⟨rfl, rfl⟩
    go_wp2
    go_ret
    exact ⟨rfl, rfl⟩
end Go.Proofs.YteedndapbfihaaaGreat
/- Walks: handpostlaw.maps: the program's links and the reference's map behind the same settings. -/
namespace Go.Proofs.YteedndapbfihaaaGreat
open Go.RowKit Go.Deep

def stepC (C : Nat → Nat → Int) (p q v : Int) : Nat → Nat → Int := if 0 ≤ p ∧ p < 6 ∧ 0 ≤ q ∧ q < 6 ∧ p ≠ q ∧ 0 ≤ v ∧ v ≤ 15 then setC C p.toNat q.toNat v else C
theorem CostOK.zero : Lk.CostOK (fun _ _ => 0) := ⟨fun _ _ _ _ => by omega, fun _ _ _ _ => by omega, fun _ _ _ _ => rfl, fun _ _ => rfl⟩
theorem CostOK.set {C : Nat → Nat → Int} (h : Lk.CostOK C) {p q : Nat} (hpq : p ≠ q) {v : Int} (h0 : 0 ≤ v) (h1 : v ≤ 15) : Lk.CostOK (setC C p q v) where
  lo a b ha hb := by
    have := h.lo a b ha hb
    unfold setC updC; split
    · omega
    · split <;> omega
  hi a b ha hb := by
    have := h.hi a b ha hb
    unfold setC updC; split
    · omega
    · split <;> omega
  sym a b ha hb := by
    have := h.sym a b ha hb
    by_cases e1 : a = q ∧ b = p
    · have e2 : ¬ (b = q ∧ a = p) := by omega
      have e3 : b = p ∧ a = q := ⟨e1.2, e1.1⟩
      simp only [setC, updC, if_pos e1, if_neg e2, if_pos e3]
    · by_cases e2 : a = p ∧ b = q
      · have e3 : b = q ∧ a = p := ⟨e2.2, e2.1⟩
        simp only [setC, updC, if_neg e1, if_pos e2, if_pos e3]
      · have e3 : ¬ (b = q ∧ a = p) := fun h => e2 ⟨h.2, h.1⟩
        have e4 : ¬ (b = p ∧ a = q) := fun h => e1 ⟨h.2, h.1⟩
        simp only [setC, updC, if_neg e1, if_neg e2, if_neg e3, if_neg e4]
        exact this
  self a ha := by
    have := h.self a ha
    have e1 : ¬ (a = q ∧ a = p) := by omega
    have e2 : ¬ (a = p ∧ a = q) := by omega
    simp only [setC, updC, if_neg e1, if_neg e2]
    exact this
theorem CostOK.stepC {C : Nat → Nat → Int} (h : Lk.CostOK C) (p q v : Int) : Lk.CostOK (stepC C p q v) := by
  unfold Go.Proofs.YteedndapbfihaaaGreat.stepC
  split
  · rename_i hc
    exact CostOK.set h (by omega) hc.2.2.2.2.2.1 hc.2.2.2.2.2.2
  · exact h
end Go.Proofs.YteedndapbfihaaaGreat
/- Walks: handpostlaw.linksBegun; (*Links).Far for whatever source; handpostlaw.far. -/
namespace Go.Proofs.YteedndapbfihaaaGreat
open Go.RowKit Go.Deep

theorem Far_any (b : Nat) (s : Int) (C : Nat → Nat → Int) (w : World) (hC : CAt w b 108 C) (hc : Lk.CostOK C) :
    Calls Tryz.prog 65 #[.pointer (some ⟨b, 0, none⟩), .int .i64 s] w (FarPost (Lk.far C s) w) := by
  by_cases h : 0 ≤ s ∧ s < 6
  · obtain ⟨n, rfl⟩ := Int.eq_ofNat_of_zero_le h.1
    exact Far_node b n C w hC hc (by omega)
  · exact Far_none b s C w hc h
/-- Six integers as a value. -/
def agg6 (f : Nat → Int) : Value := .agg #[.int .i64 (f 0), .int .i64 (f 1), .int .i64 (f 2), .int .i64 (f 3), .int .i64 (f 4), .int .i64 (f 5)]
def LfarPost (f : Nat → Int) (w : World) (e : Ending) (w' : World) : Prop := e = .returned (agg6 f) ∧ Fr NoB w w'
def LfarRel (f : Nat → Int) (w : World) (o g : Nat) (i : Value) (wr : World) : Prop :=
  ∃ k : Nat, k ≤ 6 ∧ i = .int .i64 k ∧ wr.rowIs o 31 6 (I (fun n => if n < k then f n else 0)) ∧ wr.rowIs g 3 6 (I f) ∧ wr.rowIs w.heap.size 31 6 (I (fun _ => 0)) ∧ Fr NoB w wr
set_option maxHeartbeats 2000000 in
theorem Lfar (b : Nat) (s : Int) (C : Nat → Nat → Int) (w : World) (hC : CAt w b 108 C) (hc : Lk.CostOK C) :
    Calls Tryz.prog 39 #[.pointer (some ⟨b, 0, none⟩), .int .i64 s] w (LfarPost (Lk.far C s) w) := by
  have hlt := World.rowIs.lt hC
  have hCa := World.rowIs.alloc hC (.cells (Array.replicate 6 (.int .i64 0)) 31)
  have HC := Lib.hid hCa; clear hC hCa
  have HH := Lib.hid hc; clear hc
  have HLt := Lib.hid hlt; clear hlt
  go_enter Tryz.func39, Tryz.ntmps39
  go_wp2_with fail
  refine (Far_any b s C _ HC.out HH.out).mono ?_
  rintro e w1 ⟨g, rfl, hg, hrow, hF⟩
  have hr := hF.row (rowIs_new w 6 (.int .i64 0) 31) (fun h => h)
  have hF := ((Fr.refl NoB w).alloc (.cells (Array.replicate 6 (.int .i64 0)) 31)).trans hF
  have HR := Lib.hid hr; clear hr
  have HG := Lib.hid hrow; clear hrow
  have HF := Lib.hid hF; clear hF
  have hg : w.heap.size < g := by simp at hg; omega
  have KG := Lib.hid hg; clear hg
  go_wp2
  go_loopw [7] (fun i wr => LfarRel (Lk.far C s) w w1.heap.size g i wr) (fun i _ => 6 - (intOf i).toNat)
  case atStart => exact ⟨0, by omega, rfl, (rowIs_new w1 6 (.int .i64 0) 31).congr (fun i _ => by simp [I]), HG.out.alloc _, HR.out.alloc _, HF.out.alloc _⟩
  case round =>
    have hgl := HG.out.lt
    have hrl := HR.out.lt
    have n1 : w1.heap.size ≠ g := by omega
    have n2 : w1.heap.size ≠ w.heap.size := by omega
    have kw : w.heap.size ≤ w1.heap.size := by omega
    have KW := Lib.hid kw; clear kw
    have N1 := Lib.hid n1; clear n1
    have N2 := Lib.hid n2; clear n2 hgl hrl HG HR HF
    obtain ⟨k, hk, rfl, h1, h2, h3, h4⟩ := hrel
    have H1 := Lib.hid h1; have H2 := Lib.hid h2; have H3 := Lib.hid h3; have H4 := Lib.hid h4
    clear h1 h2 h3 h4
    by_cases hk6 : k < 6
    · have c1 := rowI_cell H1.out hk6
      have c2 := rowI_cell H2.out hk6
      have f1 := H1.out.frozen k
      have c3 := rowI_cell (H2.out.setOther (a := ⟨w1.heap.size, k, none⟩) (fun h => N1.out h.symm) (.int .i64 (-1))) hk6
      go_wp2
      go_roundw
      case rel => exact ⟨k + 1, by omega, by go_num, rowI_set (rowI_set H1.out k (-1) (fun _ _ => rfl)) k (Lk.far C s k) (by
          intro j hj
          by_cases e : j = k
          · subst e; simp
          · have : j < k + 1 ↔ j < k := by omega
            simp [e, this]), (H2.out.setOther (fun h => N1.out h.symm) _).setOther (fun h => N1.out h.symm) _, (H3.out.setOther (fun h => N2.out h.symm) _).setOther (fun h => N2.out h.symm) _, (H4.out.setNew KW.out _ _).setNew KW.out _ _⟩
      case measure => simp [intOf]; omega
    · have e6 : k = 6 := by omega
      have hr : wr.rowIs w1.heap.size 31 6 (I (Lk.far C s)) := H1.out.congr (fun i hi => by simp [I, e6, hi])
      clear e6
      have c0 := rowI_cell hr (i := 0) (by omega)
      have d0 := rowI_cell H3.out (i := 0) (by omega)
      have f0 := H3.out.frozen 0
      have c1 := rowI_cell hr (i := 1) (by omega)
      have d1 := rowI_cell H3.out (i := 1) (by omega)
      have f1 := H3.out.frozen 1
      have c2 := rowI_cell hr (i := 2) (by omega)
      have d2 := rowI_cell H3.out (i := 2) (by omega)
      have f2 := H3.out.frozen 2
      have c3 := rowI_cell hr (i := 3) (by omega)
      have d3 := rowI_cell H3.out (i := 3) (by omega)
      have f3 := H3.out.frozen 3
      have c4 := rowI_cell hr (i := 4) (by omega)
      have d4 := rowI_cell H3.out (i := 4) (by omega)
      have f4 := H3.out.frozen 4
      have c5 := rowI_cell hr (i := 5) (by omega)
      have d5 := rowI_cell H3.out (i := 5) (by omega)
      have f5 := H3.out.frozen 5
      clear hr
      go_wp2
      refine bodyPost_ret (v := agg6 (Lk.far C s)) ?_ rfl ⟨rfl, ((((((H4.out.setNew (Nat.le_refl _) _ _).setNew (Nat.le_refl _) _ _).setNew (Nat.le_refl _) _ _).setNew (Nat.le_refl _) _ _).setNew (Nat.le_refl _) _ _).setNew (Nat.le_refl _) _ _)⟩
      simp [results, Tryz.results39, go_sem, agg6, d0, d1, d2, d3, d4, d5]
theorem index6_0 (f : Nat → Int) (w : World) : (Instr.index 31 (agg6 f) (.int .i64 0)).run Tryz.prog w = .ok (.int .i64 (f 0)) w := by kernel_rfl
theorem index6_1 (f : Nat → Int) (w : World) : (Instr.index 31 (agg6 f) (.int .i64 1)).run Tryz.prog w = .ok (.int .i64 (f 1)) w := by kernel_rfl
theorem index6_2 (f : Nat → Int) (w : World) : (Instr.index 31 (agg6 f) (.int .i64 2)).run Tryz.prog w = .ok (.int .i64 (f 2)) w := by kernel_rfl
theorem index6_3 (f : Nat → Int) (w : World) : (Instr.index 31 (agg6 f) (.int .i64 3)).run Tryz.prog w = .ok (.int .i64 (f 3)) w := by kernel_rfl
theorem index6_4 (f : Nat → Int) (w : World) : (Instr.index 31 (agg6 f) (.int .i64 4)).run Tryz.prog w = .ok (.int .i64 (f 4)) w := by kernel_rfl
theorem index6_5 (f : Nat → Int) (w : World) : (Instr.index 31 (agg6 f) (.int .i64 5)).run Tryz.prog w = .ok (.int .i64 (f 5)) w := by kernel_rfl
theorem index6 (n : Nat) (hn : n < 6) (f : Nat → Int) (w : World) : (Instr.index 31 (agg6 f) (.int .i64 n)).run Tryz.prog w = .ok (.int .i64 (f n)) w := by
  match n, hn with
  | 0, _ => exact index6_0 f w
  | 1, _ => exact index6_1 f w
  | 2, _ => exact index6_2 f w
  | 3, _ => exact index6_3 f w
  | 4, _ => exact index6_4 f w
  | 5, _ => exact index6_5 f w
end Go.Proofs.YteedndapbfihaaaGreat
/- Walks: Of of whatever number; append of one integer, with what has turned told closely. -/
namespace Go.Proofs.YteedndapbfihaaaGreat
open Go.RowKit Go.Deep

theorem app_int' {P : Program} {ops : Array Oper} {rest : List Oper} {o : Oper} {a : Act} {w : World} {Q : Exit → Act → World → Prop} (hgd : o.guard = none) (s x : Operand) (t : TypeId)
    (ho : o.op = .call { callee := .builtin .append, args := #[s, x], argTypes := #[t, t] })
    (ht : P.underlying t = some (.slice 3)) (hinfo : (P.info? 3).map (fun i => (i.zero, i.size, i.bytes)) = some (some (.int .i64 0), 1, 8))
    (base : Nat) (v : Value) (xs : List Int) (hs : a.eval s = v) (hown : Sl w base v xs)
    (ad : Addr) (y : Int) (hx : a.eval x = .slice (some ad) 1 1) (hy : w.cell? ad = some (.int .i64 y))
    (h63 : xs.length < 2147483648) (hbase : base ≤ w.heap.size)
    (h : ∀ v' w', Sl w' base v' (xs ++ [y]) → Fr (fun i => v.ownBlock = some i) w w' → wpList P ops Q rest (a.put o.dst v') w') : wpList P ops Q (o :: rest) a w := by
  refine app_own hgd s x t 3 1 8 (.int .i64 0) ho ht hinfo rfl (by omega) base v xs.length (xs.map (Value.int .i64)) hs hown ad 1 1 [.int .i64 y] hx rfl ?_ ?_ (by omega) (by omega) hbase ?_
  · intro j u hj
    match j, hj with
    | 0, hj => simp at hj; subst hj; simpa [Addr.add] using hy
  · intro u hu; simp at hu; subst hu; rfl
  · intro v' w' h2 h3
    refine h v' w' ?_ h3
    unfold Sl
    simpa using h2

end Go.Proofs.YteedndapbfihaaaGreat
