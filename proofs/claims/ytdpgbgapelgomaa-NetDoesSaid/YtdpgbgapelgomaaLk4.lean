/- Walks: (*Links).Far: Dijkstra's way. -/
import Derived.Test.YtdpgbgapelgomaaLk3
namespace Go.Proofs.Ytdpgbgapelgomaa
open Go.RowKit Go.Deep

def fillK (k : Nat) : Nat → Int := fun n => if n < k then 200 else 0
def Bools (w : World) (b : Nat) (f : Nat → Bool) : Prop := w.rowIs b 101 6 (fun i => .bool (f i))
theorem Bools.cell {w : World} {b : Nat} {f : Nat → Bool} (h : Bools w b f) {i : Nat} (hi : i < 6) : w.cell? ⟨b, i, none⟩ = some (.bool (f i)) := World.rowIs.cell h hi
theorem Bools.set {w : World} {b : Nat} {f : Nat → Bool} (h : Bools w b f) (i : Nat) : Bools (w.setCell ⟨b, i, none⟩ (.bool true)) b (fun n => f n || decide (n = i)) :=
  (World.rowIs.set h i (.bool true)).congr fun j _ => by
    by_cases e : j = i
    · simp [e]
    · simp [e]

theorem Bools_new (w : World) (D : Nat) (h : D = w.heap.size) : Bools (w.alloc (.cells #[.bool false, .bool false, .bool false, .bool false, .bool false, .bool false] 101)) D (fun _ => false) := by
  subst h
  exact rowIs_new w 6 (.bool false) 101

theorem far_none {C : Nat → Nat → Int} {s : Int} (hc : Lk.CostOK C) (h : ¬ (0 ≤ s ∧ s < 6)) (v : Nat) (hv : v < 6) : Lk.far C s v = 200 := by
  refine Lk.far_eq (d := fun _ => 200) ⟨fun _ _ => by omega, fun _ _ => by omega, fun v hv e => by omega, fun a b ha hb h => by omega, fun v _ h => by omega⟩ hc.lo v hv

set_option maxHeartbeats 2000000 in
theorem Far_none (b : Nat) (s : Int) (C : Nat → Nat → Int) (w : World) (hc : Lk.CostOK C) (hs : ¬ (0 ≤ s ∧ s < 6)) :
    Calls Try.prog 21 #[.pointer (some ⟨b, 0, none⟩), .int .i64 s] w (FarPost (Lk.far C s) w) := by
  have HS := Lib.hid hs; clear hs
  have HH := Lib.hid hc; clear hc
  have hmk := mk6
  go_enter Try.func21, Try.ntmps21
  go_wp2
  clear hmk
  go_loopw [15] (fun i wr => ∃ k : Nat, k ≤ 6 ∧ i = .int .i64 k ∧ wr.rowIs w.heap.size 3 6 (I (fillK k)) ∧ Fr NoB w wr) (fun i _ => 6 - (intOf i).toNat)
  case atStart => exact ⟨0, by omega, rfl, (rowIs_new w 6 (.int .i64 0) 3).congr (by intro i _; simp [I, fillK]), (Fr.refl _ _).alloc _⟩
  case round =>
    obtain ⟨k, hk, rfl, hrow, hfr⟩ := hrel
    have HR := Lib.hid hrow; clear hrow
    have HF := Lib.hid hfr; clear hfr
    by_cases hk6 : k < 6
    · have hcell := rowI_cell HR.out hk6
      have hfz := HR.out.frozen k
      go_wp2
      go_roundw
      case rel => exact ⟨k + 1, by omega, by go_num, rowI_set HR.out k 200 (by
          intro j hj
          by_cases e : j = k
          · subst e; simp [fillK]
          · have : j < k + 1 ↔ j < k := by omega
            simp [fillK, e, this]), (HF.out.setNew (Nat.le_refl _) _ _)⟩
      case measure => simp [intOf]; omega
    · have e6 : k = 6 := by omega
      have HR := Lib.hid ((HR.out.congr (g := I (Lk.far C s)) (by intro i hi; simp [I, fillK, hi, e6, far_none HH.out HS.out i hi])))
      clear e6
      go_wp2_with fail
      refine (Node_no _ _ HS.out).mono ?_; rintro e w' ⟨rfl, rfl⟩
      go_wp2
      go_ret
      exact ⟨_, rfl, Nat.le_refl _, HR.out, HF.out⟩

/-- What Far's inner loop has done behind k of the neighbours. -/
def dstep (C : Nat → Nat → Int) (o : Nat → Int) (t k : Nat) : Nat → Int := fun b => if b ∈ (ofL C t 6).take k then min (o b) (o t + C t b) else o b
theorem mem_ofL (C : Nat → Nat → Int) (t b : Nat) : b ∈ ofL C t 6 ↔ b < 6 ∧ 0 < C t b := by simp [ofL]
theorem nodup_ofL (C : Nat → Nat → Int) (t : Nat) : (ofL C t 6).Nodup := List.Pairwise.filter _ List.nodup_range
theorem dstep_end (C : Nat → Nat → Int) (o : Nat → Int) (t b : Nat) (hb : b < 6) : dstep C o t (ofL C t 6).length b = if 0 < C t b then min (o b) (o t + C t b) else o b := by
  unfold dstep
  rw [List.take_length]
  by_cases h : 0 < C t b
  · rw [if_pos ((mem_ofL C t b).2 ⟨hb, h⟩), if_pos h]
  · rw [if_neg (fun h' => h ((mem_ofL C t b).1 h').2), if_neg h]
theorem not_mem_take {l : List Nat} (h : l.Nodup) (k : Nat) (hk : k < l.length) : l[k] ∉ l.take k := by
  intro hm
  obtain ⟨i, hi, e⟩ := List.mem_iff_getElem.1 hm
  have hi' : i < k := by simp at hi; omega
  rw [List.getElem_take] at e
  exact absurd (List.getElem_inj h |>.1 e) (by omega)
theorem dstep_next (C : Nat → Nat → Int) (o : Nat → Int) (t k : Nat) (hk : k < (ofL C t 6).length) (b : Nat) :
    dstep C o t (k + 1) b = if b = (ofL C t 6)[k] then min (o b) (o t + C t b) else dstep C o t k b := by
  unfold dstep
  rw [List.take_succ_eq_append_getElem hk]
  by_cases e : b = (ofL C t 6)[k]
  · rw [if_pos (List.mem_append.2 (.inr (List.mem_singleton.2 e))), if_pos e]
  · have h : b ∈ (ofL C t 6).take k ++ [(ofL C t 6)[k]] ↔ b ∈ (ofL C t 6).take k := by
      rw [List.mem_append, List.mem_singleton]
      exact ⟨fun h => h.resolve_right e, .inl⟩
    rw [if_neg e]
    simp only [h]
theorem dstep_here (C : Nat → Nat → Int) (o : Nat → Int) (t k : Nat) (hk : k < (ofL C t 6).length) : dstep C o t k (ofL C t 6)[k] = o (ofL C t 6)[k] := by
  unfold dstep
  rw [if_neg (not_mem_take (nodup_ofL C t) k hk)]
theorem dstep_self {C : Nat → Nat → Int} (hc : Lk.CostOK C) (o : Nat → Int) (t k : Nat) (ht : t < 6) : dstep C o t k t = o t := by
  unfold dstep
  rw [if_neg]
  intro h
  have := ((mem_ofL C t t).1 (List.mem_of_mem_take h)).2
  have := hc.self t ht
  omega

/-- What holds at the head of each turn: B: the distances' block, D: that of what is done. -/
def DijRel (C : Nat → Nat → Int) (s : Nat) (w : World) (D : Nat) (i : Value) (wr : World) : Prop :=
  ∃ (k : Nat) (o : Nat → Int) (done : Nat → Bool), k ≤ 6 ∧ i = .int .i64 k ∧ wr.rowIs w.heap.size 3 6 (I o) ∧ Bools wr D done ∧ Lk.Dij C s o done ∧ k ≤ (List.range 6).countP done ∧ Fr NoB w wr
def NbRel (C : Nat → Nat → Int) (o : Nat → Int) (t : Nat) (w w3 : World) (D : Nat) (done : Nat → Bool) (i : Value) (wr : World) : Prop :=
  ∃ k : Nat, k ≤ (ofL C t 6).length ∧ i = .int .i64 k ∧ wr.rowIs w.heap.size 3 6 (I (dstep C o t k)) ∧ Bools wr D done ∧ Fr (OneB w.heap.size) w3 wr ∧ Fr NoB w wr

set_option maxRecDepth 100000 in
set_option maxHeartbeats 8000000 in
theorem Far_node (b : Nat) (s : Nat) (C : Nat → Nat → Int) (w : World) (hC : CAt w b 103 C) (hc : Lk.CostOK C) (hs6 : s < 6) :
    Calls Try.prog 21 #[.pointer (some ⟨b, 0, none⟩), .int .i64 s] w (FarPost (Lk.far C s) w) := by
  have HC := Lib.hid hC; clear hC
  have HH := Lib.hid hc; clear hc
  have hmk := mk6
  go_enter Try.func21, Try.ntmps21
  go_wp2
  clear hmk
  go_loopw [15] (fun i wr => ∃ k : Nat, k ≤ 6 ∧ i = .int .i64 k ∧ wr.rowIs w.heap.size 3 6 (I (fillK k)) ∧ Fr NoB w wr ∧ wr.heap.size = w.heap.size + 1) (fun i _ => 6 - (intOf i).toNat)
  case atStart => exact ⟨0, by omega, rfl, (rowIs_new w 6 (.int .i64 0) 3).congr (by intro i _; simp [I, fillK]), (Fr.refl _ _).alloc _, by simp⟩
  case round =>
    obtain ⟨k, hk, rfl, hrow, hfr, hsz⟩ := hrel
    have HR := Lib.hid hrow; clear hrow
    have HF := Lib.hid hfr; clear hfr
    have HZ := Lib.hid hsz; clear hsz
    by_cases hk6 : k < 6
    · have hcell := rowI_cell HR.out hk6
      have hfz := HR.out.frozen k
      go_wp2
      go_roundw
      case rel => exact ⟨k + 1, by omega, by go_num, rowI_set HR.out k 200 (by
          intro j hj
          by_cases e : j = k
          · subst e; simp [fillK]
          · have : j < k + 1 ↔ j < k := by omega
            simp [fillK, e, this]), (HF.out.setNew (Nat.le_refl _) _ _), by rw [nblk_setCell]; exact HZ.out⟩
      case measure => simp [intOf]; omega
    · have e6 : k = 6 := by omega
      have HR := Lib.hid ((HR.out.congr (g := I (fun _ => 200)) (by intro i hi; simp [I, fillK, hi, e6])))
      clear e6
      have hcell := rowI_cell HR.out hs6
      have hfz := HR.out.frozen s
      have hnb : decide ((s : Int) < 6) = true := by simp; omega
      go_wp2_with fail
      refine (Node_yes _ _ (by omega) (by omega)).mono ?_; rintro e w' ⟨rfl, rfl⟩
      go_wp2
      obtain ⟨w1, rfl⟩ : ∃ w1 : World, w1 = wr := ⟨_, rfl⟩
      have hlt := HR.out.lt
      have hDne : w1.heap.size ≠ w.heap.size := by omega
      have HL := Lib.hid hlt; clear hlt
      have HDn := Lib.hid hDne; clear hDne
      have hst : (w1.setCell ⟨w.heap.size, s, none⟩ (.int .i64 0)).rowIs w.heap.size 3 6 (I (Lk.start s)) := rowI_set HR.out s 0 (by intro j _; simp only [Lk.start, Int.natCast_inj])
      have HST := Lib.hid hst; clear hst
      go_loopw [29] (fun i wr => DijRel C s w w1.heap.size i wr) (fun i _ => 6 - (intOf i).toNat)
      case atStart => exact ⟨0, Lk.start s, fun _ => false, by omega, rfl, HST.out.alloc _, Bools_new _ _ (by simp), Lk.Dij.start C s, by omega, (HF.out.setNew (Nat.le_refl _) _ _).alloc _⟩
      case round =>
        clear HR HF HST HZ hcell hfz
        obtain ⟨k, o, done, hk, rfl, hrow, hbools, hdij, hcnt, hfr⟩ := hrel
        have HR := Lib.hid hrow; clear hrow
        have HB := Lib.hid hbools; clear hbools
        have HJ := Lib.hid hdij; clear hdij
        have HN := Lib.hid hcnt; clear hcnt
        have HF := Lib.hid hfr; clear hfr
        by_cases hk6 : k < 6
        · have hkb : decide ((k : Int) < 6) = true := by simp; omega
          go_wp2
          obtain ⟨w2, rfl⟩ : ∃ w2 : World, w2 = wr := ⟨_, rfl⟩
          go_loopw [8, 33] (fun p i wr => ∃ n : Nat, n ≤ 6 ∧ i = .int .i64 n ∧ p = .int .i64 (Lk.nearest o done n) ∧ wr.rowIs w.heap.size 3 6 (I o) ∧ Bools wr w1.heap.size done ∧ Fr NoB w wr) (fun _ i _ => 6 - (intOf i).toNat)
          case atStart => exact ⟨0, by omega, rfl, rfl, HR.out, HB.out, HF.out⟩
          case round =>
            clear HR HB HF
            obtain ⟨n, hn, rfl, rfl, hrow, hbools, hfr⟩ := hrel
            have HR := Lib.hid hrow; clear hrow
            have HB := Lib.hid hbools; clear hbools
            have HF := Lib.hid hfr; clear hfr
            by_cases hn6 : n < 6
            · have hge := Lk.nearest_ge o done n
              have hnext : Lk.nearest o done (n + 1) = if done n = false ∧ o n < 200 ∧ (Lk.nearest o done n < 0 ∨ o n < o (Lk.nearest o done n).toNat) then (n : Int) else Lk.nearest o done n := rfl
              generalize Lk.nearest o done n = m at *
              have HX := Lib.hid hnext; clear hnext
              obtain ⟨hm1, hm2⟩ := hge
              have c2 := rowI_cell HR.out hn6
              cases hd : done n
              · have cA : wr.cell? ⟨w1.heap.size, n, none⟩ = some (.bool false) := by rw [← hd]; exact HB.out.cell hn6
                have HD := Lib.hid hd; clear hd
                by_cases g2 : o n < 200
                · by_cases g3 : m < 0
                  · obtain rfl : m = -1 := by omega
                    go_wp2
                    go_quiet (fail)
                    go_wp2
                    go_roundw
                    case rel => exact ⟨n + 1, by omega, by go_num, by rw [HX.out, if_pos ⟨HD.out, g2, .inl (by omega)⟩], HR.out, HB.out, HF.out.drewN _⟩
                    case measure => simp [intOf]; omega
                  · obtain ⟨t, rfl⟩ : ∃ t : Nat, m = t := ⟨m.toNat, by omega⟩
                    have ht6 : t < 6 := by omega
                    have c3 := rowI_cell HR.out ht6
                    have g3' : decide ((t : Int) < 0) = false := by simp
                    clear g3
                    by_cases g4 : o n < o t
                    · go_wp2
                      go_quiet (fail)
                      go_wp2
                      go_roundw
                      case rel => exact ⟨n + 1, by omega, by go_num, by rw [HX.out, if_pos ⟨HD.out, g2, .inr (by simpa using g4)⟩], HR.out, HB.out, HF.out.drewN _⟩
                      case measure => simp [intOf]; omega
                    · go_wp2
                      go_quiet (fail)
                      go_wp2
                      go_roundw
                      case rel => exact ⟨n + 1, by omega, by go_num, by rw [HX.out, if_neg (by simp; omega)], HR.out, HB.out, HF.out.drewN _⟩
                      case measure => simp [intOf]; omega
                · have g2' : decide (o n < 200) = false := by simpa using g2
                  go_wp2
                  go_quiet (fail)
                  go_wp2
                  go_roundw
                  case rel => exact ⟨n + 1, by omega, by go_num, by rw [HX.out, if_neg (by omega)], HR.out, HB.out, HF.out.drewN _⟩
                  case measure => simp [intOf]; omega
              · have cA : wr.cell? ⟨w1.heap.size, n, none⟩ = some (.bool true) := by rw [← hd]; exact HB.out.cell hn6
                have HD := Lib.hid hd; clear hd
                go_wp2
                go_quiet (fail)
                go_wp2
                go_roundw
                case rel => exact ⟨n + 1, by omega, by go_num, by rw [HX.out, if_neg (by rw [HD.out]; simp)], HR.out, HB.out, HF.out.drewN _⟩
                case measure => simp [intOf]; omega
            · have e6 : n = 6 := by omega
              have hsp := Lk.nearest_spec o done 6
              rw [e6]
              clear e6 hn6 hn
              rcases hsp with ⟨h1, h2⟩ | ⟨t, h1, h2, h3, h4, h5⟩
              · rw [h1]
                have H2 := Lib.hid h2; clear h2 h1
                go_wp2
                go_ret
                refine ⟨_, rfl, Nat.le_refl _, HR.out.congr ?_, HF.out⟩
                intro v hv
                simp only [I]
                rw [Lk.far_eq (HJ.out.sol H2.out) HH.out.lo v hv]
              · rw [h1]
                have H3 := Lib.hid h3; have H5 := Lib.hid h5; clear h1 h3 h5
                have cD := HB.out.cell h2
                have fD := World.rowIs.frozen HB.out t
                have g3' : decide ((t : Int) < 0) = false := by simp
                go_wp2_with fail
                have k1 := HR.out.setOther (a := ⟨w1.heap.size, t, none⟩) (fun h => HDn.out h.symm) (.bool true)
                have k2 := HB.out.set t
                have k3 := HF.out.setNew (Nat.le_of_lt HL.out) t (.bool true)
                clear HR HB HF cD fD
                generalize wr.setCell ⟨w1.heap.size, t, none⟩ (.bool true) = W at *
                refine (Of_yes b t C _ h2 (k3.row HC.out (fun h => h))).mono ?_
                rintro e w3 ⟨v, rfl, hv, hf⟩
                have k0 : w.heap.size < W.heap.size := k1.lt
                have k1 := hf.row k1 (fun h => h)
                have k2 : Bools w3 w1.heap.size (fun n => done n || decide (n = t)) := hf.row k2 (fun h => h)
                have k3 := k3.trans hf
                clear hf
                have HR := Lib.hid k1; clear k1
                have HB := Lib.hid k2; clear k2
                have HF := Lib.hid k3; clear k3
                rcases hv.shape with ⟨rfl, hx⟩ | ⟨g, cap, rfl, hg, hg2, hcells⟩
                · have HL0 : (ofL C t 6).length = 0 := by simpa [ints] using congrArg List.length hx
                  have hend : ∀ b', b' < 6 → o b' = if 0 < C t b' then min (o b') (o t + C t b') else o b' := by
                    intro b' hb'
                    rw [← dstep_end C o t b' hb', HL0]
                    simp [dstep]
                  have HE := Lib.hid hend; clear hend hx hv HL0
                  go_wp2
                  refine wp_loop_rounds 1 ?_
                  rw [rounds_succ]
                  go_wp2
                  go_roundw
                  case rel => exact ⟨k + 1, o, _, by omega, by go_num, HR.out, HB.out, HJ.out.next HH.out h2 H3.out h4 H5.out (fun _ _ => rfl) HE.out, by have := Lk.count_next (done := done) (done' := fun n => done n || decide (n = t)) h2 H3.out (fun _ _ => rfl); have := HN.out; omega, HF.out⟩
                  case measure => simp [intOf]; omega
                · have HV := Lib.hid hcells; clear hcells hv
                  have hlen : (ints (ofL C t 6)).length = (ofL C t 6).length := by simp [ints]
                  rw [hlen] at *
                  clear hlen
                  have hgB : g ≠ w.heap.size := by omega
                  have HG := Lib.hid hgB; clear hgB
                  go_wp2
                  go_loopw [72] (fun i wr => NbRel C o t w w3 w1.heap.size (fun n => done n || decide (n = t)) i wr) (fun i _ => (ofL C t 6).length - (intOf i).toNat)
                  case atStart => exact ⟨0, by omega, rfl, HR.out.congr (fun i hi => by simp [I, dstep]), HB.out, Fr.refl _ _, HF.out⟩
                  case round =>
                    clear HR HB HF
                    obtain ⟨j, hj, rfl, hrow, hbools, hfr1, hfr⟩ := hrel
                    have HR := Lib.hid hrow; clear hrow
                    have HB := Lib.hid hbools; clear hbools
                    have HF1 := Lib.hid hfr1; clear hfr1
                    have HF := Lib.hid hfr; clear hfr
                    have hLe := ofL_le C t 6
                    by_cases hjl : j < (ofL C t 6).length
                    · have hmem := (mem_ofL C t (ofL C t 6)[j]).1 (List.getElem_mem hjl)
                      have hhere := dstep_here C o t j hjl
                      have hnext := dstep_next C o t j hjl
                      have cV : wr.cell? ⟨g, j, none⟩ = some (.int .i64 ((ofL C t 6)[j] : Nat)) := by
                        rw [World.cell?_of_block (w := w3) (HF1.out.block g hg2 (fun h => HG.out h)), HV.out j (by simpa [ints] using hjl)]
                        simp [ints, hjl]
                      generalize (ofL C t 6)[j] = c at *
                      obtain ⟨hc6, hcpos⟩ := hmem
                      have c1 := CAt.cell (HF.out.row HC.out (fun h => h)) h2 hc6
                      have c2 := rowI_cell HR.out hc6
                      have c3 := rowI_cell HR.out h2
                      rw [hhere] at c2
                      rw [dstep_self HH.out o t j h2] at c3
                      have f2 := HR.out.frozen c
                      have HN2 := Lib.hid hnext; clear hnext hhere
                      have b1 := HH.out.hi t c h2 hc6
                      have b2 := HJ.out.lo c hc6
                      have b3 := HJ.out.hi c hc6
                      have b4 := HJ.out.lo t h2
                      go_wp2
                      go_region
                      go_wp2
                      go_roundw
                      case rel => exact ⟨j + 1, by omega, by go_num, World.rowIs.drew (rowI_set HR.out c _ (by
                        intro i _
                        rw [HN2.out i]
                        by_cases e : i = c
                        · subst e; rw [if_pos rfl, if_pos rfl, Int.min_def]; split <;> split <;> omega
                        · rw [if_neg e, if_neg e])), World.rowIs.drew (World.rowIs.setOther HB.out (fun h => HDn.out h) _), (HF1.out.set1 _ _).drew, (HF.out.setNew (Nat.le_refl _) _ _).drew⟩
                      case measure => simp [intOf]; omega
                    · have e6 : j = (ofL C t 6).length := by omega
                      have hend : ∀ b', b' < 6 → dstep C o t j b' = if 0 < C t b' then min (o b') (o t + C t b') else o b' := by
                        intro b' hb'
                        rw [e6]
                        exact dstep_end C o t b' hb'
                      have HE := Lib.hid hend; clear hend e6
                      go_wp2
                      go_roundw
                      case rel => exact ⟨k + 1, dstep C o t j, _, by omega, by go_num, HR.out, HB.out, HJ.out.next HH.out h2 H3.out h4 H5.out (fun _ _ => rfl) HE.out, by have := Lk.count_next (done := done) (done' := fun n => done n || decide (n = t)) h2 H3.out (fun _ _ => rfl); have := HN.out; omega, HF.out⟩
                      case measure => simp [intOf]; omega
        · go_wp2
          go_ret
          refine ⟨_, rfl, Nat.le_refl _, HR.out.congr ?_, HF.out⟩
          intro v hv
          have hall := Lk.all_done (done := done) (Nat.le_antisymm (by have := List.countP_le_length (p := done) (l := List.range 6); simpa using this) (by have := HN.out; omega))
          simp only [I]
          rw [Lk.far_eq (HJ.out.sol (fun n hn hd => by rw [hall n hn] at hd; cases hd)) HH.out.lo v hv]
end Go.Proofs.Ytdpgbgapelgomaa
